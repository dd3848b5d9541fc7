/- Contracts of the law files' small helpers on lists of texts. -/
import Derived.Test.YtgbfhpjdhacfmaaGridL
import Derived.Test.YtgbfhpjdhacfmaaState
namespace Go.Proofs.Ytgbfhpjdhacfmaa
open Go.RowKit
set_option linter.unusedVariables false

/-- A slice of texts. -/
def SS (v : Value) (ss : List ByteArray) : Seg := ⟨v, 9, 1, ss.length, ss.map Value.string⟩
theorem strInfo : (Try.prog.info? 9).map (fun i => (i.zero, i.size, i.bytes)) = some (some (.string ByteArray.empty), 1, 16) := by kernel_rfl
theorem SS_shape {w : World} {base : Nat} {v : Value} {ss : List ByteArray} (h : (SS v ss).own w base) :
    ∃ ao cap, v = .slice ao ss.length cap ∧ ss.length ≤ maxLen ∧ CellsS w ao ss := by
  rcases h.2 with ⟨hv, hn⟩ | ⟨g, cap, cur, hv, hb, hg, hnc, hcm, _⟩
  · have h0 : ss.length = 0 := hn
    have h1 : ss = [] := List.eq_nil_of_length_eq_zero h0
    subst h1
    exact ⟨none, 0, hv, Nat.zero_le _, CellsS.nil _ _⟩
  · refine ⟨some ⟨g, 0, none⟩, cap, hv, Nat.le_trans hnc hcm, fun i hi => ⟨g, 0, rfl, ?_⟩⟩
    have hv' : v = .slice (some ⟨g, 0, none⟩) ss.length cap := hv
    subst hv'
    have hc := World.ownsRow.cellAt h i (by show i < ss.length * 1; omega)
    rw [Nat.zero_add, hc]
    simp [rowOf, hi, SS]
def eqLS (xs ys : List ByteArray) : Bool := decide (xs = ys)

/-- 'make([]string, n)' at the operation. -/
theorem wpMakeS (w : World) {ops : Array Oper} {rest : List Oper} {o : Oper} {a : Act} {Q : Exit → Act → World → Prop}
    (hg : o.guard = none) (l c : Operand) (hop : o.op = Op.makeSlice 39 l c) (base n : Nat) (kl kc : IntKind) (L C : Int)
    (hl : a.eval l = .int kl L) (hc : a.eval c = .int kc C) (hL : L = (n : Int)) (hC : C = (n : Int)) (b : n ≤ 4194304) (hb : base ≤ w.heap.size)
    (hK : ∀ w', (SS (.slice (some ⟨w.heap.size, 0, none⟩) n n) (List.replicate n ByteArray.empty)).own w' base → w.grownBy w' none → wpList Try.prog ops Q rest (a.put o.dst (.slice (some ⟨w.heap.size, 0, none⟩) n n)) w') :
    wpList Try.prog ops Q (o :: rest) a w := by
  obtain ⟨i0, hi, hz0, hz1, hz2⟩ := info_parts strInfo
  refine wpList_make_full w hg l c 39 hop base 9 i0 (.string ByteArray.empty) 1 Try.underlying39 hi hz0 hz1 kl kc L C n hl hc hL hC (by rw [hz2]; omega) (by unfold maxLen; omega) hb ?_
  intro w' h1 h2
  refine hK w' ?_ h2
  have e : (madeCells (Value.string ByteArray.empty).cells (n * 1)).toList = (List.replicate n ByteArray.empty).map Value.string := by
    apply List.ext_getElem
    · simp [madeCells, Value.cells]
    · intro i h1 h2
      simp [madeCells, Value.cells, Nat.mod_one]
  unfold SS Seg.own
  dsimp only
  rw [← e, List.length_replicate]
  exact h1

theorem SS_stored {w : World} {base g cap : Nat} {xs : List ByteArray} (h : (SS (.slice (some ⟨g, 0, none⟩) xs.length cap) xs).own w base) (j : Nat) (x : ByteArray) :
    (SS (.slice (some ⟨g, 0, none⟩) xs.length cap) (xs.set j x)).own (w.setCell ⟨g, j, none⟩ (.string x)) base ∧ w.grownBy (w.setCell ⟨g, j, none⟩ (.string x)) (some g) := by
  have := World.ownsRow.stored h j (.string x)
  unfold SS Seg.own at *
  dsimp only at *
  rw [List.length_set, List.map_set]
  exact this

/-- The first j places are copied from xs. -/
def cpS (xs : List ByteArray) (j : Nat) : List ByteArray := xs.take j ++ List.replicate (xs.length - j) ByteArray.empty
theorem cpS_length (xs : List ByteArray) {j : Nat} (h : j ≤ xs.length) : (cpS xs j).length = xs.length := by simp [cpS]; omega
theorem cpS_zero (xs : List ByteArray) : cpS xs 0 = List.replicate xs.length ByteArray.empty := by simp [cpS]
theorem cpS_all (xs : List ByteArray) : cpS xs xs.length = xs := by simp [cpS]
theorem cpS_set (xs : List ByteArray) {j : Nat} (h : j < xs.length) : (cpS xs j).set j (rowOf xs j) = cpS xs (j + 1) := by
  apply List.ext_getElem?
  intro i
  simp only [cpS, rowOf, List.getElem?_set, List.getElem?_append, List.length_take, List.getElem?_take, List.getElem?_replicate, List.getD_eq_getElem?_getD, List.getElem?_eq_getElem h, Option.getD_some, List.length_append, List.length_replicate]
  have e1 : min j xs.length = j := by omega
  have e2 : min (j + 1) xs.length = j + 1 := by omega
  rw [e1, e2]
  by_cases e : j = i
  · subst e
    have : j < j + (xs.length - j) := by omega
    simp [h, this]
  · by_cases e3 : i < j
    · have : i < j + 1 := by omega
      simp [e, e3, this]
    · have e4 : ¬ i < j + 1 := by omega
      simp only [e, e3, e4, if_false]
      by_cases e5 : i < xs.length
      · rw [if_pos (by omega), if_pos (by omega)]
      · rw [if_neg (by omega), if_neg (by omega)]

end Go.Proofs.Ytgbfhpjdhacfmaa
