/- What the law on two pairings closed asks: plain facts. -/
import Derived.Test.YtfpcfolcdpdomaaCloseBL
import Derived.Test.YtfpcfolcdpdomaaJoinLawL
namespace Go.Proofs.Ytfpcfolcdpdomaa
set_option linter.unusedVariables false
set_option linter.unusedSimpArgs false

theorem closeb_law {n m k : Int} {xs ys : List Int} (h : twoB n m xs k ys = true) :
    twoB n k ys m xs = true ∧ ofB n (m + k) (jpairL n m xs k ys) = true ∧ ofB n (m + k) (jpairL n k ys m xs) = true ∧
    closeL n (m + k) (jpairL n m xs k ys) + jroundL n m xs k ys = closeL n (m + k) (jpairL n k ys m xs) + jroundL n k ys m xs ∧
    (0 ≤ closeL n (m + k) (jpairL n m xs k ys) ∧ closeL n (m + k) (jpairL n m xs k ys) ≤ 5) ∧ (0 ≤ closeL n (m + k) (jpairL n k ys m xs) ∧ closeL n (m + k) (jpairL n k ys m xs) ≤ 5) ∧
    (0 ≤ jroundL n m xs k ys ∧ jroundL n m xs k ys ≤ 5) ∧ (0 ≤ jroundL n k ys m xs ∧ jroundL n k ys m xs ≤ 5) := by
  have j1 := join_law h
  have h2 : twoB n k ys m xs = true := by
    have h0 := h
    unfold twoB at h0 ⊢
    simp only [Bool.and_eq_true, decide_eq_true_eq] at h0 ⊢
    exact ⟨⟨h0.1.2, h0.1.1⟩, by omega⟩
  have j2 := join_law h2
  obtain ⟨o1, o2, _, _, o5, _, _, o8, o9⟩ := j1
  obtain ⟨q1, q2, _, _, q5, _, _, q8, q9⟩ := j2
  rw [show k + m = m + k by omega] at q5
  have c1 := close_law o5
  have c2 := close_law q5
  have hn := (ofB_iff.1 o1).2.1
  refine ⟨h2, o5, q5, ?_, ⟨c1.2.2.2.2.2.1, by have := c1.2.2.2.2.2.2; omega⟩, ⟨c2.2.2.2.2.2.1, by have := c2.2.2.2.2.2.2; omega⟩, ⟨o8, by omega⟩, ⟨q8, by omega⟩⟩
  obtain ⟨n, m, k, rfl, rfl, rfl, hT, lx, ly, px, py⟩ := twoB_two h
  have e1 : jpairL n m xs k ys = joinL n m k xs ys := by simp [jpairL, h]
  have e2 : jpairL n k ys m xs = joinL n k m ys xs := by simp [jpairL, h2]
  have e3 : jroundL n m xs k ys = (joinN n m k xs ys : Nat) := by simp [jroundL, h]
  have e4 : jroundL n k ys m xs = (joinN n k m ys xs : Nat) := by simp [jroundL, h2]
  have hc := close_both hT lx ly px py
  rw [e1] at o5
  rw [e2] at q5
  rw [e1, e2, e3, e4]
  unfold closeL
  rw [o5, q5]
  simp only [if_true, Int.toNat_natCast, show ((m : Int) + k).toNat = m + k by omega]
  omega
end Go.Proofs.Ytfpcfolcdpdomaa
