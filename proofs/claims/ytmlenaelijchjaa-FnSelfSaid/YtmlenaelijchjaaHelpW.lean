/- Contracts of the law files' small helpers on slices of numbers. -/
import Derived.Test.YtmlenaelijchjaaStS
namespace Go.Proofs.Ytmlenaelijchjaa
open Go.RowKit
set_option linter.unusedVariables false

def eqL (xs ys : List Int) : Bool := decide (xs = ys)
theorem eqL_true {xs ys : List Int} (h : xs = ys) : eqL xs ys = true := by simp [eqL, h]
theorem eqL_len {xs ys : List Int} (h : xs.length ≠ ys.length) : eqL xs ys = false := by
  simp [eqL]; intro e; exact h (by rw [e])
theorem eqL_no {xs ys : List Int} (k : Nat) (h : xs.getD k 0 ≠ ys.getD k 0) : eqL xs ys = false := by
  simp only [eqL, decide_eq_false_iff_not]; intro e; exact h (by rw [e])
theorem eqL_all {xs ys : List Int} (hl : xs.length = ys.length) (h : ∀ j, j < xs.length → xs.getD j 0 = ys.getD j 0) : eqL xs ys = true := by
  refine eqL_true (List.ext_getElem hl fun i h1 h2 => ?_)
  have := h i h1
  simpa [h1, h2] using this

/-- k, k + 1, .. : n numbers. -/
def marks (k : Int) (n : Nat) : List Int := (List.range n).map fun i : Nat => k + (i : Int)
theorem marks_length (k : Int) (n : Nat) : (marks k n).length = n := by simp [marks]
theorem marks_getD (k : Int) {n j : Nat} (h : j < n) : (marks k n).getD j 0 = k + j := by simp [marks, h]
/-- The first j places are marked. -/
def mkTo (k : Int) (xs : List Int) (j : Nat) : List Int := marks k j ++ xs.drop j
theorem mkTo_length (k : Int) (xs : List Int) {j : Nat} (h : j ≤ xs.length) : (mkTo k xs j).length = xs.length := by simp [mkTo, marks_length]; omega
theorem mkTo_zero (k : Int) (xs : List Int) : mkTo k xs 0 = xs := by simp [mkTo, marks]
theorem mkTo_all (k : Int) (xs : List Int) : mkTo k xs xs.length = marks k xs.length := by simp [mkTo]
theorem mkTo_set (k : Int) (xs : List Int) {j : Nat} (h : j < xs.length) : (mkTo k xs j).set j (k + j) = mkTo k xs (j + 1) := by
  apply List.ext_getElem
  · rw [List.length_set, mkTo_length k xs (by omega), mkTo_length k xs (by omega)]
  · intro i h1 h2
    simp only [mkTo, marks, List.getElem_set, List.getElem_append, List.length_map, List.length_range, List.getElem_map, List.getElem_range, List.getElem_drop]
    by_cases e : j = i
    · subst e; simp
    · by_cases e2 : i < j
      · have : i < j + 1 := by omega
        simp [e, e2, this]
      · have : ¬ i < j + 1 := by omega
        simp only [e, e2, this, if_false, dif_neg, not_false_eq_true]
        congr 1
        omega

/-- The first j places are copied from xs. -/
def cpTo (xs : List Int) (j : Nat) : List Int := xs.take j ++ List.replicate (xs.length - j) 0
theorem cpTo_length (xs : List Int) {j : Nat} (h : j ≤ xs.length) : (cpTo xs j).length = xs.length := by simp [cpTo]; omega
theorem cpTo_zero (xs : List Int) : cpTo xs 0 = List.replicate xs.length 0 := by simp [cpTo]
theorem cpTo_all (xs : List Int) : cpTo xs xs.length = xs := by simp [cpTo]
theorem cpTo_set (xs : List Int) {j : Nat} (h : j < xs.length) : (cpTo xs j).set j (xs.getD j 0) = cpTo xs (j + 1) := by
  apply List.ext_getElem?
  intro i
  simp only [cpTo, List.getElem?_set, List.getElem?_append, List.length_take, List.getElem?_take, List.getElem?_replicate, List.getD_eq_getElem?_getD, List.getElem?_eq_getElem h, Option.getD_some, List.length_append, List.length_replicate]
  have e1 : min j xs.length = j := by omega
  have e2 : min (j + 1) xs.length = j + 1 := by omega
  rw [e1, e2]
  by_cases e : j = i
  · subst e
    have : j < j + (xs.length - j) := by omega
    simp [h, this]
  · by_cases e3 : i < j
    · have : i < j + 1 := by omega
      simp [e, e3, this]
    · have e4 : ¬ i < j + 1 := by omega
      simp only [e, e3, e4, if_false]
      by_cases e5 : i < xs.length
      · rw [if_pos (by omega), if_pos (by omega)]
      · rw [if_neg (by omega), if_neg (by omega)]

end Go.Proofs.Ytmlenaelijchjaa
