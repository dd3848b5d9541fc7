/- Plain: the laws on grids that are made. -/
import Derived.Test.YtoabhbdglgmcdaaMakeBW
namespace Go.Proofs.Ytoabhbdglgmcdaa
open Go.RowKit
set_option linter.unusedVariables false
set_option linter.unusedSimpArgs false

/-- Turned pairings are made as often, with as few mirrors. -/
theorem made_turnR {n m : Int} {xs : List Int} (h : givenB n m xs = true) :
    ofB n m xs = true ∧ (jturnL n m xs).length = xs.length ∧ givenB m n (jturnL n m xs) = true ∧ (madeR m n (jturnL n m xs)).length = (madeR n m xs).length
    ∧ firstB m n (jturnL n m xs) = firstB n m xs ∧ fewL m n (jturnL n m xs) = fewL n m xs := by
  have h0 := h
  simp only [givenB, Bool.and_eq_true] at h
  obtain ⟨hs, ho⟩ := h
  have hj := jturn_facts ho
  have hs2 : smallB m n = true := by
    obtain ⟨h1, h2, h3, h4, h5⟩ := smallB_iff.1 hs
    exact smallB_iff.2 ⟨h3, h4, h1, h2, by rw [Int.mul_comm]; exact h5⟩
  have hg : givenB m n (jturnL n m xs) = true := by
    simp only [givenB, hs2, hj.2.1]
    rfl
  obtain ⟨n', m', rfl, rfl, _⟩ := given_nat h0
  have ht := made_turn ho
  have hl : (madeR m' n' (jturnL n' m' xs)).length = (madeR n' m' xs).length := by
    rw [madeR_given hg, madeR_given h0]
    exact ht.1
  have hf : firstB m' n' (jturnL n' m' xs) = firstB n' m' xs := by
    have e : ∀ {n m : Int} {xs : List Int}, firstB n m xs = !(decide ((madeR n m xs).length = 0)) := by
      intro n m xs
      unfold firstB
      cases madeR n m xs <;> simp
    rw [e, e, hl]
  refine ⟨ho, hj.2.2.1, hg, hl, hf, ?_⟩
  unfold fewL
  rw [hf, madeR_given hg, madeR_given h0]
  split
  · exact ht.2
  · rfl

theorem first_len (n m : Int) (xs : List Int) : decide (((madeR n m xs).length : Int) > 0) = firstB n m xs := by
  unfold firstB
  cases madeR n m xs
  · rfl
  · simp

/-- The first grid is one of those made. -/
theorem first_facts {n m : Int} {xs : List Int} (h : firstB n m xs = true) :
    ∃ n' m' k : Nat, n = n' ∧ m = m' ∧ 1 ≤ n' ∧ n' ≤ 5 ∧ 1 ≤ m' ∧ m' ≤ 5 ∧ firstL n m xs = gN n' m' k ∧ hasB n' m' xs k = true ∧ k < 3 ^ (n' * m') ∧ madeR n m xs = madeL n' m' xs := by
  have hg := firstB_given h
  obtain ⟨n', m', rfl, rfl, h1, h2, h3, h4, _⟩ := given_nat hg
  have e := madeR_given hg
  rw [Int.toNat_natCast, Int.toNat_natCast] at e
  cases hz : madeR n' m' xs with
  | nil => rw [firstB, hz] at h; simp at h
  | cons z Z =>
    have hz2 : z ∈ madeL n' m' xs := by rw [← e, hz]; exact List.mem_cons_self
    have hz3 := mem_madeTo.1 hz2
    refine ⟨n', m', z, rfl, rfl, h1, h2, h3, h4, ?_, hz3.2, hz3.1, by rw [← hz]; exact e⟩
    unfold firstL
    rw [hz]
    rfl

/-- The first grid has the pairing and at least as many mirrors as are needed. -/
theorem first_law {n m : Int} {xs : List Int} (h : firstB n m xs = true) :
    gridB (firstL n m xs) = true ∧ (firstL n m xs).length ≤ 5 ∧ (∀ s ∈ firstL n m xs, s.size ≤ 5) ∧ beamsB (firstL n m xs) = xs ∧ ∃ c : Nat, mirL (firstL n m xs) = (c : Nat) ∧ fewL n m xs ≤ c ∧ c ≤ 25 := by
  obtain ⟨n', m', k, rfl, rfl, h1, h2, h3, h4, hL, hk, hlt, hR⟩ := first_facts h
  have hok := gN_ok k h1 h2 h3 h4
  rw [hL]
  refine ⟨hok, by rw [show (gN n' m' k).length = n' from gridT_length _ _ _]; exact h2, fun s hs => (gridB_sizes' hok s hs).2, by simpa [hasB, eqL] using hk, mirK n' m' k, mirL_gN k h1 h2 h3 h4, ?_, ?_⟩
  · unfold fewL
    rw [if_pos h, hR, Int.toNat_natCast, Int.toNat_natCast]
    exact leastL_le _ (mem_madeTo.2 ⟨hlt, hk⟩)
  · exact Nat.le_trans (mirK_le k h1) (Nat.mul_le_mul h2 h4)
end Go.Proofs.Ytoabhbdglgmcdaa
