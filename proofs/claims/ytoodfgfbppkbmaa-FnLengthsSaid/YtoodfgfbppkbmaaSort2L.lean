/- Insertion sorts: plain facts. -/
import Derived.Test.YtoodfgfbppkbmaaSortL
namespace Go.Proofs.Ytoodfgfbppkbmaa
set_option linter.unusedVariables false
set_option linter.unusedSimpArgs false

theorem posR_above (s : List Int) (x : Int) : ∀ j q, posR s x j ≤ q → q < j → x < s.getD q 0 := by
  intro j
  induction j with
  | zero => intro q _ h; omega
  | succ j ih =>
    intro q h1 h2
    unfold posR at h1
    split at h1
    · by_cases e : q = j
      · subst e; assumption
      · exact ih q h1 (by omega)
    · omega
theorem posR_below (s : List Int) (x : Int) : ∀ j, 0 < posR s x j → s.getD (posR s x j - 1) 0 ≤ x := by
  intro j
  induction j with
  | zero => intro h; exact absurd h (Nat.lt_irrefl 0)
  | succ j ih =>
    intro h
    unfold posR at h ⊢
    split
    · rename_i hx
      rw [if_pos hx] at h
      exact ih h
    · rename_i hx
      rw [Nat.add_sub_cancel]
      omega
theorem insR_sorted {s : List Int} (x : Int) (h : s.Pairwise (· ≤ ·)) : (insR s x).Pairwise (· ≤ ·) := by
  have hle := posR_le s x s.length
  have ha := posR_above s x s.length
  have hb := posR_below s x s.length
  unfold insR
  generalize posR s x s.length = p at *
  have hget : ∀ q (hq : q < s.length), s.getD q 0 = s[q] := fun q hq => by rw [List.getD_eq_getElem?_getD, List.getElem?_eq_getElem hq]; rfl
  have hdrop : ∀ y ∈ s.drop p, x < y := fun y hy => by
    obtain ⟨i, hi, rfl⟩ := List.getElem_of_mem hy
    rw [List.length_drop] at hi
    rw [List.getElem_drop, ← hget]
    exact ha (p + i) (by omega) (by omega)
  have htake : ∀ y ∈ s.take p, y ≤ x := fun y hy => by
    obtain ⟨i, hi, rfl⟩ := List.getElem_of_mem hy
    rw [List.length_take] at hi
    rw [List.getElem_take]
    have hp : 0 < p := by omega
    have h1 := hb hp
    rw [hget (p - 1) (by omega)] at h1
    refine Int.le_trans ?_ h1
    by_cases e : i = p - 1
    · subst e; exact Int.le_refl _
    · exact (List.pairwise_iff_getElem.1 h) i (p - 1) (by omega) (by omega) (by omega)
  refine List.pairwise_append.2 ⟨h.sublist (List.take_sublist _ _), List.pairwise_cons.2 ⟨fun y hy => Int.le_of_lt (hdrop y hy), h.sublist (List.drop_sublist _ _)⟩, fun y hy z hz => ?_⟩
  rcases List.mem_cons.1 hz with rfl | hz
  · exact htake y hy
  · exact Int.le_trans (htake y hy) (Int.le_of_lt (hdrop z hz))
theorem insR_perm (s : List Int) (x : Int) : (insR s x).Perm (x :: s) := by
  unfold insR
  refine List.perm_middle.trans ?_
  rw [List.take_append_drop]
theorem sortTo_sorted (xs : List Int) : ∀ i, (sortTo xs i).Pairwise (· ≤ ·) := by
  intro i
  induction i with
  | zero => exact List.Pairwise.nil
  | succ i ih => exact insR_sorted _ ih
theorem sortTo_perm (xs : List Int) : ∀ i, i ≤ xs.length → (sortTo xs i).Perm (xs.take i) := by
  intro i
  induction i with
  | zero => intro _; simp [sortTo]
  | succ i ih =>
    intro h
    have h1 := ih (by omega)
    have e : xs.take (i + 1) = xs.take i ++ [xs.getD i 0] := by
      rw [List.take_succ_eq_append_getElem (by omega), List.getD_eq_getElem?_getD, List.getElem?_eq_getElem (by omega)]
      rfl
    rw [e]
    refine (insR_perm _ _).trans ?_
    refine (List.Perm.cons _ h1).trans ?_
    exact (List.perm_append_singleton _ _).symm
theorem sortL_perm (xs : List Int) : (sortL xs).Perm xs := by
  have := sortTo_perm xs xs.length (Nat.le_refl _)
  rwa [List.take_length] at this
theorem sortL_sorted (xs : List Int) : (sortL xs).Pairwise (· ≤ ·) := sortTo_sorted xs _
theorem sortL_length (xs : List Int) : (sortL xs).length = xs.length := sortTo_length _ _
end Go.Proofs.Ytoodfgfbppkbmaa
