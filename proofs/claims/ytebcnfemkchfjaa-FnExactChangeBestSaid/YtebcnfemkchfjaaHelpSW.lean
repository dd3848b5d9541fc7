/- Contracts of the law files' small helpers on lists of texts. -/
import Derived.Test.YtebcnfemkchfjaaGridL
import Derived.Test.YtebcnfemkchfjaaState
namespace Go.Proofs.Ytebcnfemkchfjaa
open Go.RowKit
set_option linter.unusedVariables false

/-- A slice of texts. -/
def SS (v : Value) (ss : List ByteArray) : Seg := ⟨v, 9, 1, ss.length, ss.map Value.string⟩
theorem strInfo : (Try.prog.info? 9).map (fun i => (i.zero, i.size, i.bytes)) = some (some (.string ByteArray.empty), 1, 16) := by kernel_rfl
theorem SS_shape {w : World} {base : Nat} {v : Value} {ss : List ByteArray} (h : (SS v ss).own w base) :
    ∃ ao cap, v = .slice ao ss.length cap ∧ ss.length ≤ maxLen ∧ CellsS w ao ss := by
  rcases h.2 with ⟨hv, hn⟩ | ⟨g, cap, cur, hv, hb, hg, hnc, hcm, _⟩
  · have h0 : ss.length = 0 := hn
    have h1 : ss = [] := List.eq_nil_of_length_eq_zero h0
    subst h1
    exact ⟨none, 0, hv, Nat.zero_le _, CellsS.nil _ _⟩
  · refine ⟨some ⟨g, 0, none⟩, cap, hv, Nat.le_trans hnc hcm, fun i hi => ⟨g, 0, rfl, ?_⟩⟩
    have hv' : v = .slice (some ⟨g, 0, none⟩) ss.length cap := hv
    subst hv'
    have hc := World.ownsRow.cellAt h i (by show i < ss.length * 1; omega)
    rw [Nat.zero_add, hc]
    simp [rowOf, hi, SS]
def eqLS (xs ys : List ByteArray) : Bool := decide (xs = ys)

/-- 'make([]string, n)' at the operation. -/
theorem wpMakeS (w : World) {ops : Array Oper} {rest : List Oper} {o : Oper} {a : Act} {Q : Exit → Act → World → Prop}
    (hg : o.guard = none) (l c : Operand) (hop : o.op = Op.makeSlice 22 l c) (base n : Nat) (kl kc : IntKind) (L C : Int)
    (hl : a.eval l = .int kl L) (hc : a.eval c = .int kc C) (hL : L = (n : Int)) (hC : C = (n : Int)) (b : n ≤ 4194304) (hb : base ≤ w.heap.size)
    (hK : ∀ w', (SS (.slice (some ⟨w.heap.size, 0, none⟩) n n) (List.replicate n ByteArray.empty)).own w' base → w.grownBy w' none → wpList Try.prog ops Q rest (a.put o.dst (.slice (some ⟨w.heap.size, 0, none⟩) n n)) w') :
    wpList Try.prog ops Q (o :: rest) a w := by
  obtain ⟨i0, hi, hz0, hz1, hz2⟩ := info_parts strInfo
  refine wpList_make_full w hg l c 22 hop base 9 i0 (.string ByteArray.empty) 1 Try.underlying22 hi hz0 hz1 kl kc L C n hl hc hL hC (by rw [hz2]; omega) (by unfold maxLen; omega) hb ?_
  intro w' h1 h2
  refine hK w' ?_ h2
  have e : (madeCells (Value.string ByteArray.empty).cells (n * 1)).toList = (List.replicate n ByteArray.empty).map Value.string := by
    apply List.ext_getElem
    · simp [madeCells, Value.cells]
    · intro i h1 h2
      simp [madeCells, Value.cells, Nat.mod_one]
  unfold SS Seg.own
  dsimp only
  rw [← e, List.length_replicate]
  exact h1

theorem SS_stored {w : World} {base g cap : Nat} {xs : List ByteArray} (h : (SS (.slice (some ⟨g, 0, none⟩) xs.length cap) xs).own w base) (j : Nat) (x : ByteArray) :
    (SS (.slice (some ⟨g, 0, none⟩) xs.length cap) (xs.set j x)).own (w.setCell ⟨g, j, none⟩ (.string x)) base ∧ w.grownBy (w.setCell ⟨g, j, none⟩ (.string x)) (some g) := by
  have := World.ownsRow.stored h j (.string x)
  unfold SS Seg.own at *
  dsimp only at *
  rw [List.length_set, List.map_set]
  exact this

/-- The first j places are copied from xs. -/
def cpS (xs : List ByteArray) (j : Nat) : List ByteArray := xs.take j ++ List.replicate (xs.length - j) ByteArray.empty
theorem cpS_length (xs : List ByteArray) {j : Nat} (h : j ≤ xs.length) : (cpS xs j).length = xs.length := by simp [cpS]; omega
theorem cpS_zero (xs : List ByteArray) : cpS xs 0 = List.replicate xs.length ByteArray.empty := by simp [cpS]
theorem cpS_all (xs : List ByteArray) : cpS xs xs.length = xs := by simp [cpS]
theorem cpS_set (xs : List ByteArray) {j : Nat} (h : j < xs.length) : (cpS xs j).set j (rowOf xs j) = cpS xs (j + 1) := by
  apply List.ext_getElem?
  intro i
  simp only [cpS, rowOf, List.getElem?_set, List.getElem?_append, List.length_take, List.getElem?_take, List.getElem?_replicate, List.getD_eq_getElem?_getD, List.getElem?_eq_getElem h, Option.getD_some, List.length_append, List.length_replicate]
  have e1 : min j xs.length = j := by omega
  have e2 : min (j + 1) xs.length = j + 1 := by omega
  rw [e1, e2]
  by_cases e : j = i
  · subst e
    have : j < j + (xs.length - j) := by omega
    simp [h, this]
  · by_cases e3 : i < j
    · have : i < j + 1 := by omega
      simp [e, e3, this]
    · have e4 : ¬ i < j + 1 := by omega
      simp only [e, e3, e4, if_false]
      by_cases e5 : i < xs.length
      · rw [if_pos (by omega), if_pos (by omega)]
      · rw [if_neg (by omega), if_neg (by omega)]

theorem toStringS_any (ao : Option Addr) (cap : Nat) (xs : List ByteArray) (w : World) (hx : CellsS w ao xs) (hm : xs.length ≤ 1048576) :
    Calls Try.prog 18 #[.slice ao xs.length cap] w fun e w' => ∃ v, e = .returned v ∧ (SS v xs).own w' w.heap.size ∧ Below w.heap.size w w' := by
  go_enter Try.func18, Try.ntmps18
  go_wp2_with (at_make; refine wpMakeS _ rfl _ _ rfl w.heap.size xs.length _ _ _ _ rfl rfl rfl rfl (by omega) (by simp) ?_; intro w1 hown hgrow)
  have hb1 : Below w.heap.size w w1 := Below.of_grown hgrow (Nat.le_refl _) (by simp)
  clear hgrow
  go_loopw [4] (fun i wr => ∃ k : Nat, k ≤ xs.length ∧ i = .int .i64 k ∧ (SS (.slice (some ⟨w.heap.size, 0, none⟩) xs.length xs.length) (cpS xs k)).own wr w.heap.size ∧ Below w.heap.size w wr)
    (fun i _ => xs.length - (intOf i).toNat)
  case atStart => exact ⟨0, Nat.zero_le _, rfl, by rw [cpS_zero]; exact hown, hb1⟩
  case round =>
    obtain ⟨k, hk, rfl, ho, hb⟩ := hrel
    clear hown hb1
    by_cases hlt : k < xs.length
    · obtain ⟨b, off, rfl, hc, hbb⟩ := hx.at hlt
      have hck : wr.cell? ⟨b, off + k, none⟩ = some (.string (rowOf xs k)) := (hb.cell hbb).trans (hc k hlt)
      have hl : (cpS xs k).length = xs.length := cpS_length xs hk
      have hbB : b ≠ w.heap.size := by omega
      have ho2 : (SS (.slice (some ⟨w.heap.size, 0, none⟩) (cpS xs k).length xs.length) (cpS xs k)).own wr w.heap.size := by rw [hl]; exact ho
      have hcell := World.ownsRow.cellAt ho2 k (by show k < (cpS xs k).length * 1; omega)
      have hfr := World.ownsRow.frozenAt ho2 k
      have hnew := SS_stored ho2 k (rowOf xs k)
      rw [cpS_set xs hlt, hl] at hnew
      generalize rowOf xs k = x at hck hnew
      have HN := Lib.hid hnew
      have HB := Lib.hid hb
      have HX := Lib.hid hx
      obtain ⟨u, hu⟩ : ∃ u, ((cpS xs k).map Value.string)[k]? = some u := ⟨_, List.getElem?_eq_getElem (by simp [hl]; exact hlt)⟩
      have hcell' : wr.cell? ⟨w.heap.size, k, none⟩ = some u := hcell.trans hu
      clear hcell hnew ho ho2 hb hc hx hl hu
      go_wp2
      go_roundw
      case rel => exact ⟨k + 1, by omega, by go_num, HN.out.1, HB.out.setCell (Nat.le_refl _) _⟩
      case measure => simp [intOf]; omega
    · obtain rfl : k = xs.length := by omega
      rw [cpS_all] at ho
      go_wp2
      go_ret
      exact ⟨_, rfl, ho, hb⟩

/-- The same texts at two places. -/
theorem eqStringS_any (ao bo : Option Addr) (ca cb : Nat) (xs : List ByteArray) (w : World) (hx : CellsS w ao xs) (hy : CellsS w bo xs) (hm : xs.length ≤ maxLen) :
    Calls Try.prog 20 #[.slice ao xs.length ca, .slice bo xs.length cb] w fun e w' => e = .returned (.bool true) ∧ Dr w w' := by
  unfold maxLen at hm
  have hl' : ((xs.length : Int) != (xs.length : Int)) = false := by simp
  go_enter Try.func20, Try.ntmps20
  go_wp2_with fail
  go_loopw [5] (fun i wr => ∃ k : Nat, k ≤ xs.length ∧ i = .int .i64 k ∧ Dr w wr) (fun i _ => xs.length - (intOf i).toNat)
  case atStart => exact ⟨0, Nat.zero_le _, rfl, Dr.refl _⟩
  case round =>
    obtain ⟨k, hk, rfl, n, rfl⟩ := hrel
    by_cases hlt : k < xs.length
    · obtain ⟨b, off, rfl, hc, _⟩ := hx.at hlt
      obtain ⟨b2, off2, rfl, hc2, _⟩ := hy.at hlt
      have hck := hc k hlt
      have hck2 := hc2 k hlt
      generalize rowOf xs k = x at hck hck2
      clear hx hy hc hc2
      go_wp2
      go_quiet (fail)
      go_wp2
      go_roundw
      case rel => exact ⟨k + 1, by omega, by go_num, _, rfl⟩
      case measure => simp [intOf]; omega
    · obtain rfl : k = xs.length := by omega
      clear hx hy
      go_wp2
      go_ret
      exact ⟨rfl, _, rfl⟩

/-- How much is left behind the texts' lengths, or -1. -/
theorem szStringS_any (ao : Option Addr) (cap : Nat) (xs : List ByteArray) (left : Int) (w : World) (hx : CellsS w ao xs) (hm : xs.length ≤ maxLen) (hsz : ∀ s ∈ xs, s.size ≤ maxLen) (h0 : 0 ≤ left) (h1 : left ≤ 1048576) :
    Calls Try.prog 16 #[.slice ao xs.length cap, .int .i64 left] w fun e w' => ∃ r : Int, e = .returned (.int .i64 r) ∧ w = w' ∧ (r = -1 ∨ (0 ≤ r ∧ r ≤ left ∧ (xs.length : Int) ≤ left ∧ ∀ i, i < xs.length → ((rowOf xs i).size : Int) ≤ left)) := by
  unfold maxLen at hm
  have HSZ := Lib.hid hsz
  clear hsz
  by_cases hn : left - xs.length < 0
  · go_enter Try.func16, Try.ntmps16
    go_wp2
    go_ret
    exact ⟨-1, rfl, rfl, .inl rfl⟩
  · go_enter Try.func16, Try.ntmps16
    go_wp2_with fail
    go_loop [1, 5] (fun l i => ∃ (k : Nat) (r : Int), k ≤ xs.length ∧ i = .int .i64 k ∧ l = .int .i64 r ∧ 0 ≤ r ∧ r ≤ left ∧ Hid (∀ i, i < k → ((rowOf xs i).size : Int) ≤ left)) (fun _ i => xs.length - (intOf i).toNat)
    case atStart => exact ⟨0, left - xs.length, Nat.zero_le _, rfl, rfl, by omega, by omega, fun i h => by omega⟩
    case round =>
      obtain ⟨k, r, hk, rfl, rfl, hr0, hr1, ho⟩ := hrel
      by_cases hlt : k < xs.length
      · obtain ⟨b, off, rfl, hc, _⟩ := hx.at hlt
        have hck := hc k hlt
        have hs1 : (rowOf xs k).size ≤ maxLen := HSZ.out _ (by simp [rowOf, hlt])
        unfold maxLen at hs1
        have hs : ((rowOf xs k).size : Int) ≤ left → ∀ i, i < k + 1 → ((rowOf xs i).size : Int) ≤ left := fun e i hi => by
          by_cases e2 : i = k
          · rw [e2]; exact e
          · exact ho i (by omega)
        generalize rowOf xs k = x at hck hs1 hs
        have HS := Lib.hid hs
        clear hx hc hs ho
        by_cases hneg : r - x.size < 0
        · go_wp2
          go_ret
          exact ⟨-1, rfl, rfl, .inl rfl⟩
        · go_wp2
          go_round
          case rel => exact ⟨k + 1, r - x.size, by omega, by go_num, rfl, by omega, by omega, HS.out (by omega)⟩
          case measure => simp [intOf]; omega
      · obtain rfl : k = xs.length := by omega
        clear hx
        have HO := Lib.hid ho
        clear ho
        go_wp2
        go_ret
        exact ⟨r, rfl, rfl, .inr ⟨hr0, hr1, by omega, HO.out⟩⟩
end Go.Proofs.Ytebcnfemkchfjaa
