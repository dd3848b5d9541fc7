/- Contracts of the law files' small helpers on slices of numbers. -/
import Derived.Test.YtcacbkcckfgkjaaStS
namespace Go.Proofs.Ytcacbkcckfgkjaa
open Go.RowKit
set_option linter.unusedVariables false

def eqL (xs ys : List Int) : Bool := decide (xs = ys)
theorem eqL_true {xs ys : List Int} (h : xs = ys) : eqL xs ys = true := by simp [eqL, h]
theorem eqL_len {xs ys : List Int} (h : xs.length ≠ ys.length) : eqL xs ys = false := by
  simp [eqL]; intro e; exact h (by rw [e])
theorem eqL_no {xs ys : List Int} (k : Nat) (h : xs.getD k 0 ≠ ys.getD k 0) : eqL xs ys = false := by
  simp only [eqL, decide_eq_false_iff_not]; intro e; exact h (by rw [e])
theorem eqL_all {xs ys : List Int} (hl : xs.length = ys.length) (h : ∀ j, j < xs.length → xs.getD j 0 = ys.getD j 0) : eqL xs ys = true := by
  refine eqL_true (List.ext_getElem hl fun i h1 h2 => ?_)
  have := h i h1
  simpa [h1, h2] using this

/-- k, k + 1, .. : n numbers. -/
def marks (k : Int) (n : Nat) : List Int := (List.range n).map fun i : Nat => k + (i : Int)
theorem marks_length (k : Int) (n : Nat) : (marks k n).length = n := by simp [marks]
theorem marks_getD (k : Int) {n j : Nat} (h : j < n) : (marks k n).getD j 0 = k + j := by simp [marks, h]
/-- The first j places are marked. -/
def mkTo (k : Int) (xs : List Int) (j : Nat) : List Int := marks k j ++ xs.drop j
theorem mkTo_length (k : Int) (xs : List Int) {j : Nat} (h : j ≤ xs.length) : (mkTo k xs j).length = xs.length := by simp [mkTo, marks_length]; omega
theorem mkTo_zero (k : Int) (xs : List Int) : mkTo k xs 0 = xs := by simp [mkTo, marks]
theorem mkTo_all (k : Int) (xs : List Int) : mkTo k xs xs.length = marks k xs.length := by simp [mkTo]
theorem mkTo_set (k : Int) (xs : List Int) {j : Nat} (h : j < xs.length) : (mkTo k xs j).set j (k + j) = mkTo k xs (j + 1) := by
  apply List.ext_getElem
  · rw [List.length_set, mkTo_length k xs (by omega), mkTo_length k xs (by omega)]
  · intro i h1 h2
    simp only [mkTo, marks, List.getElem_set, List.getElem_append, List.length_map, List.length_range, List.getElem_map, List.getElem_range, List.getElem_drop]
    by_cases e : j = i
    · subst e; simp
    · by_cases e2 : i < j
      · have : i < j + 1 := by omega
        simp [e, e2, this]
      · have : ¬ i < j + 1 := by omega
        simp only [e, e2, this, if_false, dif_neg, not_false_eq_true]
        congr 1
        omega

/-- The first j places are copied from xs. -/
def cpTo (xs : List Int) (j : Nat) : List Int := xs.take j ++ List.replicate (xs.length - j) 0
theorem cpTo_length (xs : List Int) {j : Nat} (h : j ≤ xs.length) : (cpTo xs j).length = xs.length := by simp [cpTo]; omega
theorem cpTo_zero (xs : List Int) : cpTo xs 0 = List.replicate xs.length 0 := by simp [cpTo]
theorem cpTo_all (xs : List Int) : cpTo xs xs.length = xs := by simp [cpTo]
theorem cpTo_set (xs : List Int) {j : Nat} (h : j < xs.length) : (cpTo xs j).set j (xs.getD j 0) = cpTo xs (j + 1) := by
  apply List.ext_getElem?
  intro i
  simp only [cpTo, List.getElem?_set, List.getElem?_append, List.length_take, List.getElem?_take, List.getElem?_replicate, List.getD_eq_getElem?_getD, List.getElem?_eq_getElem h, Option.getD_some, List.length_append, List.length_replicate]
  have e1 : min j xs.length = j := by omega
  have e2 : min (j + 1) xs.length = j + 1 := by omega
  rw [e1, e2]
  by_cases e : j = i
  · subst e
    have : j < j + (xs.length - j) := by omega
    simp [h, this]
  · by_cases e3 : i < j
    · have : i < j + 1 := by omega
      simp [e, e3, this]
    · have e4 : ¬ i < j + 1 := by omega
      simp only [e, e3, e4, if_false]
      by_cases e5 : i < xs.length
      · rw [if_pos (by omega), if_pos (by omega)]
      · rw [if_neg (by omega), if_neg (by omega)]

theorem markIntS_any (B : Nat) (v : Value) (k : Int) (xs : List Int) (w : World) (hx : OwnI w B v xs) (hm : xs.length ≤ 1048576) (hk0 : 0 ≤ k) (hk1 : k ≤ 4194304) :
    Calls Try.prog 22 #[v, .int .i64 k] w fun e w' => e = .returned (.int .i64 (k + xs.length)) ∧ OwnI w' B v (marks k xs.length) ∧ w.grownBy w' v.ownBlock := by
  obtain ⟨ao, cap, rfl, hcap, hcm, hc, hlt, hfr⟩ := hx.shape
  have HX := Lib.hid hx
  clear hx hlt
  go_enter Try.func22, Try.ntmps22
  go_wp2_with fail
  go_loopw [1, 5] (fun kk i wr => ∃ j : Nat, j ≤ xs.length ∧ i = .int .i64 j ∧ kk = .int .i64 (k + j) ∧ OwnI wr B (.slice ao xs.length cap) (mkTo k xs j) ∧ w.grownBy wr (Value.slice ao xs.length cap).ownBlock)
    (fun _ i _ => xs.length - (intOf i).toNat)
  case atStart => exact ⟨0, Nat.zero_le _, rfl, by simp, by rw [mkTo_zero]; exact HX.out, grownBy_refl _ _⟩
  case round =>
    obtain ⟨j, hj, rfl, rfl, ho, hg⟩ := hrel
    clear HX hc
    have hl : (mkTo k xs j).length = xs.length := mkTo_length k xs hj
    by_cases hlt : j < xs.length
    · rcases hfr with ⟨_, _, h0⟩ | ⟨g, rfl, hfr⟩
      · subst h0; simp at hlt
      · have ho2 : OwnI wr B (.slice (some ⟨g, 0, none⟩) (mkTo k xs j).length cap) (mkTo k xs j) := by rw [hl]; exact ho
        have hcell := World.ownsRow.cellAt ho2 j (by omega)
        have hfr2 := World.ownsRow.frozenAt ho2 j
        have hnew := ho2.stored j (k + j)
        rw [mkTo_set k xs hlt, hl] at hnew
        have HN := Lib.hid hnew
        have HG := Lib.hid hg
        obtain ⟨u, hu⟩ : ∃ u, ((mkTo k xs j).map (Value.int .i64))[j]? = some u := ⟨_, List.getElem?_eq_getElem (by simp [hl]; exact hlt)⟩
        rw [hu] at hcell
        clear hnew ho ho2 hg hl hu hfr
        go_wp2
        go_roundw
        case rel => exact ⟨j + 1, by omega, by go_num, by go_num, HN.out.1, grownBy_trans HG.out HN.out.2⟩
        case measure => simp [intOf]; omega
    · obtain rfl : j = xs.length := by omega
      rw [mkTo_all] at ho
      clear hfr hl
      go_wp2
      go_ret
      exact ⟨rfl, ho, hg⟩

/-- Does xs hold k, k + 1, ..? -/
theorem heldIntS_any (ao : Option Addr) (cap : Nat) (k : Int) (n : Nat) (w : World) (hx : CellsI w ao (marks k n)) (hm : n ≤ 1048576) (hk0 : 0 ≤ k) (hk1 : k ≤ 1048576) :
    Calls Try.prog 23 #[.slice ao n cap, .int .i64 k] w fun e w' => e = .returned (.int .i64 (k + n)) ∧ w = w' := by
  go_enter Try.func23, Try.ntmps23
  go_wp2_with fail
  go_loop [1, 5] (fun kk i => ∃ j : Nat, j ≤ n ∧ i = .int .i64 j ∧ kk = .int .i64 (k + j)) (fun _ i => n - (intOf i).toNat)
  case atStart => exact ⟨0, Nat.zero_le _, rfl, by simp⟩
  case round =>
    obtain ⟨j, hj, rfl, rfl⟩ := hrel
    by_cases hlt : j < n
    · obtain ⟨b, off, rfl, hc, hbb⟩ := hx.at (i := j) (by rw [marks_length]; exact hlt)
      have hck : w.cell? ⟨b, off + j, none⟩ = some (.int .i64 (k + j)) := by
        rw [hc j (by rw [marks_length]; exact hlt), marks_getD k hlt]
      have h1 : ((k + j : Int) != k + j) = false := by simp
      clear hx hc
      go_wp2
      go_round
      case rel => exact ⟨j + 1, by omega, by go_num, by go_num⟩
      case measure => simp [intOf]; omega
    · obtain rfl : j = n := by omega
      clear hx
      go_wp2
      go_ret
      exact ⟨rfl, rfl⟩

theorem eqIntS_any (ao bo : Option Addr) (ca cb : Nat) (xs ys : List Int) (w : World) (hx : CellsI w ao xs) (hy : CellsI w bo ys) (hm : xs.length ≤ maxLen) (hn : ys.length ≤ maxLen) :
    Calls Try.prog 20 #[.slice ao xs.length ca, .slice bo ys.length cb] w fun e w' => e = .returned (.bool (eqL xs ys)) ∧ Dr w w' := by
  unfold maxLen at hm hn
  by_cases hl : xs.length = ys.length
  · have hl' : ((xs.length : Int) != (ys.length : Int)) = false := by simp [hl]
    have HL := Lib.hid hl
    clear hl
    go_enter Try.func20, Try.ntmps20
    go_wp2_with fail
    go_loopw [5] (fun i wr => ∃ k : Nat, k ≤ xs.length ∧ i = .int .i64 k ∧ Hid (∀ j, j < k → xs.getD j 0 = ys.getD j 0) ∧ Dr w wr) (fun i _ => xs.length - (intOf i).toNat)
    case atStart => exact ⟨0, Nat.zero_le _, rfl, fun j h => by omega, Dr.refl _⟩
    case round =>
      obtain ⟨k, hk, rfl, ho, n, rfl⟩ := hrel
      by_cases hlt : k < xs.length
      · obtain ⟨b, off, rfl, hc, _⟩ := hx.at hlt
        have hlt2 : k < ys.length := by rw [← HL.out]; exact hlt
        obtain ⟨b2, off2, rfl, hc2, _⟩ := hy.at hlt2
        have hck := hc k hlt
        have hck2 := hc2 k hlt2
        have hd : xs.getD k 0 ≠ ys.getD k 0 → eqL xs ys = false := eqL_no k
        have hs : xs.getD k 0 = ys.getD k 0 → ∀ j, j < k + 1 → xs.getD j 0 = ys.getD j 0 := fun e j hj => by
          by_cases e2 : j = k
          · rw [e2]; exact e
          · exact ho j (by omega)
        generalize xs.getD k 0 = x at hck hd hs
        generalize ys.getD k 0 = y at hck2 hd hs
        clear hx hy hc hc2 ho
        cases h : (x != y)
        · have HS := Lib.hid (hs (by simpa using h))
          clear hd hs
          go_wp2
          go_quiet (fail)
          go_wp2
          go_roundw
          case rel => exact ⟨k + 1, by omega, by go_num, HS.out, _, rfl⟩
          case measure => simp [intOf]; omega
        · have HS := Lib.hid (hd (by simpa using h))
          clear hd hs
          go_wp2
          go_quiet (fail)
          go_wp2
          go_ret
          exact ⟨ret_bool (by rw [HS.out]), Dr.two _ _ _⟩
      · obtain rfl : k = xs.length := by omega
        have HS := Lib.hid (eqL_all HL.out ho)
        clear ho hx hy
        go_wp2
        go_ret
        exact ⟨ret_bool (by rw [HS.out]), _, rfl⟩
  · have hl' : ((xs.length : Int) != (ys.length : Int)) = true := by rw [bne_iff_ne]; omega
    have HS := Lib.hid (eqL_len hl)
    clear hl
    go_enter Try.func20, Try.ntmps20
    go_wp2
    go_ret
    exact ⟨ret_bool (by rw [HS.out]), Dr.refl _⟩

end Go.Proofs.Ytcacbkcckfgkjaa
