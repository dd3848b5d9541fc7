/- What the laws on joined and closed pairings ask: plain facts. -/
import Derived.Test.YtfpcfolcdpdomaaJoinCL
import Derived.Test.YtfpcfolcdpdomaaJJoinW
namespace Go.Proofs.Ytfpcfolcdpdomaa
set_option linter.unusedVariables false
set_option linter.unusedSimpArgs false

theorem join_law {n m k : Int} {xs ys : List Int} (h : twoB n m xs k ys = true) :
    ofB n m xs = true ∧ ofB n k ys = true ∧ twoB n k (jflipL n k ys) m (jflipL n m xs) = true ∧ jpairL n k (jflipL n k ys) m (jflipL n m xs) = jflipL n (m + k) (jpairL n m xs k ys) ∧
    ofB n (m + k) (jpairL n m xs k ys) = true ∧ pairsB (jpairL n m xs k ys) = true ∧ jroundL n k (jflipL n k ys) m (jflipL n m xs) = jroundL n m xs k ys ∧ 0 ≤ jroundL n m xs k ys ∧ 2 * jroundL n m xs k ys ≤ n := by
  obtain ⟨n, m, k, rfl, rfl, rfl, hT, lx, ly, px, py⟩ := twoB_two h
  obtain ⟨ox, oy⟩ := two_of hT lx ly px py
  obtain ⟨a1, a2, b1, b2⟩ := join_flip_facts hT lx ly px py
  have hn1 := hT.n1
  have hn5 := hT.n5
  have hm1 := hT.m1
  have hk1 := hT.k1
  have hmk := hT.mk5
  have of1 := (two_of hT.swap a1 b1 a2 b2).1
  have of2 := (two_of hT.swap a1 b1 a2 b2).2
  have h2 : twoB n k (jflipL n k ys) m (jflipL n m xs) = true := by
    unfold twoB
    rw [of1, of2]
    simp only [Bool.and_self, Bool.true_and, decide_eq_true_eq]
    omega
  have e1 : jpairL n m xs k ys = joinL n m k xs ys := by simp [jpairL, h]
  have e2 : jpairL n k (jflipL n k ys) m (jflipL n m xs) = joinL n k m (jflipL n k ys) (jflipL n m xs) := by simp [jpairL, h2]
  have e3 : jroundL n m xs k ys = (joinN n m k xs ys : Nat) := by simp [jroundL, h]
  have e4 : jroundL n k (jflipL n k ys) m (jflipL n m xs) = (joinN n k m (jflipL n k ys) (jflipL n m xs) : Nat) := by simp [jroundL, h2]
  have hJ : (joinL n m k xs ys).length = 2 * n + 2 * m + 2 * k := joinL_length _ _ _ _ _
  have hJP := joinL_pairs lx ly px py hn5 hm1 hk1 hmk
  have hO : ofB n ((m : Int) + k) (joinL n m k xs ys) = true := ofB_iff.2 ⟨by omega, by omega, by omega, by omega, by omega, hJP⟩
  have h3 := joinN_two hT lx ly px py
  refine ⟨ox, oy, h2, ?_, by rw [e1]; exact hO, by rw [e1]; exact hJP, by rw [e3, e4, joinN_flip hT lx ly px py], by rw [e3]; omega, by rw [e3]; omega⟩
  rw [e1, e2, joinL_flip hT lx ly px py]
  rfl
theorem close_law {n m : Int} {xs : List Int} (h : ofB n m xs = true) :
    ofB n m (jflipL n m xs) = true ∧ closeL n m (jflipL n m xs) = closeL n m xs ∧ unitB n m = true ∧ ofB n m (unitL n m) = true ∧ closeL n m (unitL n m) = n ∧ 0 ≤ closeL n m xs ∧ closeL n m xs ≤ n := by
  have h1 := (jflip_facts h).2.1
  obtain ⟨n, m, rfl, rfl, a1, a2, a3, a4, a5, a6⟩ := ofB_nat h
  obtain ⟨c1, c2, c3, c4⟩ := close_facts h
  have hU : unitB n m = true := by
    unfold unitB
    rw [Bool.and_eq_true, inB_iff, inB_iff]
    omega
  unfold closeL
  rw [h, h1, c4]
  simp only [if_true, Int.toNat_natCast]
  exact ⟨trivial, by rw [c1], hU, trivial, by rw [c3], by omega, by omega⟩
end Go.Proofs.Ytfpcfolcdpdomaa
