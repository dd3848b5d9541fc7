/- Insertion: plain facts. -/
import Derived.Test.YtoodfgfbppkbmaaStS
namespace Go.Proofs.Ytoodfgfbppkbmaa
set_option linter.unusedVariables false
set_option linter.unusedSimpArgs false

/-- Where an insertion from the right ends. -/
def posR (s : List Int) (x : Int) : Nat → Nat
  | 0 => 0
  | j + 1 => if x < s.getD j 0 then posR s x j else j + 1
def insR (s : List Int) (x : Int) : List Int := s.take (posR s x s.length) ++ x :: s.drop (posR s x s.length)
def sortTo (xs : List Int) : Nat → List Int
  | 0 => []
  | i + 1 => insR (sortTo xs i) (xs.getD i 0)
def sortL (xs : List Int) : List Int := sortTo xs xs.length
theorem posR_le (s : List Int) (x : Int) : ∀ j, posR s x j ≤ j := by
  intro j
  induction j with
  | zero => exact Nat.le_refl _
  | succ j ih => unfold posR; split <;> omega
theorem insR_length (s : List Int) (x : Int) : (insR s x).length = s.length + 1 := by
  have := posR_le s x s.length
  simp [insR]
  omega
theorem sortTo_length (xs : List Int) : ∀ i, (sortTo xs i).length = i := by
  intro i
  induction i with
  | zero => rfl
  | succ i ih => show (insR _ _).length = _; rw [insR_length, ih]
/-- The array when the element from place i stands at place j. -/
def midL (s : List Int) (x : Int) (j : Nat) (rest : List Int) : List Int := s.take j ++ x :: (s.drop j ++ rest)
theorem midL_start (s : List Int) (x : Int) (rest : List Int) : s ++ x :: rest = midL s x s.length rest := by simp [midL]
theorem midL_length {s : List Int} {x : Int} {j : Nat} {rest : List Int} (hj : j ≤ s.length) : (midL s x j rest).length = s.length + 1 + rest.length := by simp [midL]; omega
theorem midL_at {s : List Int} {x : Int} {j : Nat} {rest : List Int} (hj : j ≤ s.length) : (midL s x j rest).getD j 0 = x := by
  unfold midL
  rw [List.getD_eq_getElem?_getD, List.getElem?_append_right (by simp; omega)]
  simp [Nat.min_eq_left hj]
theorem midL_before {s : List Int} {x : Int} {j : Nat} {rest : List Int} (hj : j + 1 ≤ s.length) : (midL s x (j + 1) rest).getD j 0 = s.getD j 0 := by
  unfold midL
  rw [List.getD_eq_getElem?_getD, List.getElem?_append_left (by simp; omega), List.getElem?_take_of_lt (by omega), ← List.getD_eq_getElem?_getD]
theorem midL_swap {s : List Int} {x : Int} {j : Nat} {rest : List Int} (hj : j + 1 ≤ s.length) : ((midL s x (j + 1) rest).set (j + 1) (s.getD j 0)).set j x = midL s x j rest := by
  apply List.ext_getElem?
  intro q
  have hl : j < s.length := by omega
  have hd : s.drop j = s.getD j 0 :: s.drop (j + 1) := by
    rw [List.getD_eq_getElem?_getD, List.getElem?_eq_getElem hl]
    exact List.drop_eq_getElem_cons hl
  have ht : s.take (j + 1) = s.take j ++ [s.getD j 0] := by
    rw [List.take_succ_eq_append_getElem hl, List.getD_eq_getElem?_getD, List.getElem?_eq_getElem hl]
    rfl
  have hs : ((midL s x (j + 1) rest).set (j + 1) (s.getD j 0)).set j x = midL s x j rest := by
    unfold midL
    rw [ht, hd]
    generalize s.getD j 0 = y
    have hlen : (s.take j).length = j := by simp; omega
    generalize s.take j = u at hlen
    generalize s.drop (j + 1) = v
    subst hlen
    rw [List.append_assoc, List.set_append_right _ _ (by omega)]
    rw [List.set_append_right _ _ (by omega)]
    simp
  rw [hs]
theorem midL_end {s : List Int} {x : Int} {j : Nat} {rest : List Int} (hp : posR s x s.length = j) : midL s x j rest = insR s x ++ rest := by
  unfold midL insR
  rw [hp]
  simp
end Go.Proofs.Ytoodfgfbppkbmaa
