/- Climbing from exchange to exchange: plain facts. -/
import Derived.Test.YtcacbkcckfgkjaaBestL
namespace Go.Proofs.Ytcacbkcckfgkjaa
set_option linter.unusedVariables false
set_option linter.unusedSimpArgs false

/-- That an exchange makes more paths. -/
noncomputable def upB (ss : List ByteArray) : Bool := bestB ss && decide (((gr ss).pmany : Int) < bestM ss)
noncomputable def upS (ss : List ByteArray) : List ByteArray := putS ss (bestC ss).toNat (exch ((gr ss).sig (bestC ss).toNat))
/-- f steps of climbing at most. -/
noncomputable def climbS : Nat → List ByteArray → List ByteArray
  | 0, ss => ss
  | f + 1, ss => if upB ss = true then climbS f (upS ss) else ss
noncomputable def climbL (ss : List ByteArray) : List ByteArray := if gridB ss = true then climbS 201 ss else []
theorem best_nat {ss : List ByteArray} (hb : bestB ss = true) : gridB ss = true ∧ ∃ q : Nat, bestC ss = q ∧ q < (gr ss).n * (gr ss).m ∧ (gr ss).sig q ≠ 46 ∧ bestM ss = exP ss q ∧ (bestP ss).1 = q ∧ (bestP ss).2 = bestM ss ∧
    ∀ j, j < (gr ss).n * (gr ss).m → (gr ss).sig j ≠ 46 → (exP ss j : Int) ≤ bestM ss := by
  have hT : bestC ss = (bestP ss).1 ∧ bestM ss = (bestP ss).2 := ⟨by simp [bestC, hb], by simp [bestM, hb]⟩
  simp only [bestB, Bool.and_eq_true, decide_eq_true_iff] at hb
  obtain ⟨c, h1, h2, h3, h4, h5⟩ := (bestTo_ok ss _).some hb.2
  exact ⟨hb.1, c, hT.1.trans h1, h2, h3, hT.2.trans h4, h1, hT.2.symm, fun j hj hs => by rw [hT.2]; exact (h5 j hj hs).1⟩
theorem up_facts {ss : List ByteArray} (hu : upB ss = true) : gridB (upS ss) = true ∧ (gr ss).pmany + 1 ≤ (gr (upS ss)).pmany ∧ (gr (upS ss)).n = (gr ss).n ∧ (gr (upS ss)).m = (gr ss).m := by
  simp only [upB, Bool.and_eq_true, decide_eq_true_iff] at hu
  obtain ⟨hg, q, h1, h2, h3, h4, _⟩ := best_nat hu.1
  have e : upS ss = putS ss q (exch ((gr ss).sig q)) := by unfold upS; rw [h1, Int.toNat_natCast]
  have hp : (gr (upS ss)).pmany = exP ss q := by rw [e]; rfl
  rw [hp, e]
  have s1 := putS_sides hg q (exch ((gr ss).sig q))
  exact ⟨(exP_le hg h2).1, by omega, s1.1, s1.2⟩
theorem climbS_stop {ss : List ByteArray} (h : upB ss = false) : ∀ f, climbS f ss = ss
  | 0 => rfl
  | f + 1 => by rw [climbS, if_neg (by rw [h]; simp)]
theorem climbS_step {ss : List ByteArray} (h : upB ss = true) (f : Nat) : climbS (f + 1) ss = climbS f (upS ss) := by rw [climbS, if_pos h]
theorem climbS_ok : ∀ f (ss : List ByteArray), gridB ss = true → 201 ≤ f + (gr ss).pmany →
    gridB (climbS f ss) = true ∧ upB (climbS f ss) = false ∧ (gr ss).pmany ≤ (gr (climbS f ss)).pmany ∧ (gr (climbS f ss)).n = (gr ss).n ∧ (gr (climbS f ss)).m = (gr ss).m := by
  intro f
  induction f with
  | zero =>
    intro ss hg h
    have := pmany_le hg
    omega
  | succ f ih =>
    intro ss hg h
    cases hu : upB ss
    · rw [climbS_stop hu]
      exact ⟨hg, hu, Nat.le_refl _, rfl, rfl⟩
    · rw [climbS_step hu]
      obtain ⟨h1, h2, h3, h4⟩ := up_facts hu
      obtain ⟨k1, k2, k3, k4, k5⟩ := ih (upS ss) h1 (by omega)
      exact ⟨k1, k2, by omega, by rw [k4, h3], by rw [k5, h4]⟩
theorem climbL_ok {ss : List ByteArray} (hg : gridB ss = true) : gridB (climbL ss) = true ∧ upB (climbL ss) = false ∧ (gr ss).pmany ≤ (gr (climbL ss)).pmany ∧ (gr (climbL ss)).n = (gr ss).n ∧ (gr (climbL ss)).m = (gr ss).m ∧ climbL (climbL ss) = climbL ss := by
  have e : climbL ss = climbS 201 ss := by unfold climbL; rw [if_pos hg]
  obtain ⟨h1, h2, h3, h4, h5⟩ := climbS_ok 201 ss hg (by omega)
  rw [e]
  refine ⟨h1, h2, h3, h4, h5, ?_⟩
  unfold climbL
  rw [if_pos h1]
  exact climbS_stop h2 _
theorem climbL_le (ss : List ByteArray) : (climbL ss).length ≤ 5 := by
  cases hg : gridB ss
  · simp [climbL, hg]
  · exact (gr_ok (climbL_ok hg).1).n5
theorem no_up {ss : List ByteArray} (hg : gridB ss = true) (hu : upB ss = false) {k : Nat} (hk : k < (gr ss).n * (gr ss).m) : -200 ≤ deltaL ss k ∧ deltaL ss k ≤ 0 := by
  by_cases hm : mirB ss k = true
  · have hs := (mirB_iff hg hk).1 hm
    have hd : deltaL ss k = (exP ss k : Int) - ((gr ss).pmany : Nat) := by simp [deltaL, hm, putP, exP]
    have hp := pmany_le hg
    rw [hd]
    refine ⟨by omega, ?_⟩
    cases hb : bestB ss
    · exfalso
      have h0 : (bestP ss).1 < 0 := by
        simp only [bestB, hg, Bool.true_and, decide_eq_false_iff_not] at hb
        omega
      exact hs ((bestTo_ok ss _).none h0 k hk)
    · obtain ⟨_, q, _, _, _, _, _, _, h⟩ := best_nat hb
      have := h k hk hs
      simp only [upB, hb, Bool.true_and, decide_eq_false_iff_not] at hu
      omega
  · have hm' : mirB ss k = false := by simpa using hm
    have hd : deltaL ss k = 0 := by simp [deltaL, hm']
    rw [hd]
    omega
end Go.Proofs.Ytcacbkcckfgkjaa
