/- The walk through the law FnTotal: Crossings are at empty cells, and even between beams and rounds. (P46) -/
import Derived.Test.YtcigmmafmogmkaaCrossDW
import Derived.Test.YtcigmmafmogmkaaCross2L
import Derived.Test.YtcigmmafmogmkaaCrossS2W
import Derived.Test.YtcigmmafmogmkaaCrossSW
import Derived.Test.YtcigmmafmogmkaaStS
namespace Go.Proofs.Ytcigmmafmogmkaa.fnTotal
open Go.RowKit
set_option linter.unusedVariables false

set_option maxHeartbeats 2000000 in
theorem walk (a0 : Option Addr) (cap0 : Nat) (z0 : List Int) (w : World) (c0 : CellsY w a0 z0) (m0 : z0.length ≤ cap0 ∧ cap0 ≤ maxLen) :
    Calls Try.prog 5 #[.slice a0 z0.length cap0] w fun e w' => e = .returned (.bool true) ∧ Below w.heap.size w w' := by
  have m1 : z0.length ≤ maxLen := Nat.le_trans m0.1 m0.2
  by_cases h0 : 1048576 < z0.length
  · unfold maxLen at m1
    clear m0
    go_enter Try.func5, Try.ntmps5
    go_wp2
    go_ret
    exact ⟨rfl, Below.refl _ _⟩
  have l0 : z0.length ≤ 1048576 := by omega
  clear h0
  go_enter Try.func5, Try.ntmps5
  go_wp2_with fail
  refine (DrawCrossTotal_any a0 cap0 z0 w c0 m0.1 m0.2).mono ?_
  rintro e W1 ⟨v1, ss, rfl, l1, l5, sz, st⟩
  obtain ⟨o1, q1, rfl⟩ := st.shapeS 0 rfl
  have lm : ss.length ≤ maxLen := by unfold maxLen; omega
  have SZ : Hid (∀ s ∈ ss, s.size ≤ maxLen) := fun s hs => by have := sz s hs; unfold maxLen; omega
  clear c0 m0 m1 sz
  obtain ⟨L, hL⟩ : ∃ L : Int, L = crL ss (gr ss).totB := ⟨_, rfl⟩
  have HL := Lib.hid hL
  have nL : (L != L) = false := bne_self_eq_false _
  have bL : (L == L) = true := beq_self_eq_true _
  clear hL
  cases hg : gridB ss
  all_goals
    have HG := Lib.hid hg
    clear hg
    go_wp2_with fail
    have R := iCrossTotal_any o1 q1 ss _ (st.texts 0 rfl) lm SZ.out
    rw [HG.out, ← HL.out] at R
    refine R.mono ?_
    rintro e W2 ⟨rfl, d⟩
    clear R
    replace st := st.step d
    clear d
    go_wp2_with fail
    have R := sCrossTotal_any o1 q1 ss _ (st.texts 0 rfl) lm SZ.out
    rw [HG.out, ← HL.out] at R
    refine R.mono ?_
    rintro e W3 ⟨rfl, d⟩
    clear R
    replace st := st.step d
    clear d
  · go_wp2_with fail
    go_ret
    exact ⟨rfl, st.below⟩
  · obtain ⟨E, hE, hle⟩ := total_law HG.out
    have hl : L = ((gr ss).crN (gr ss).totB : Nat) := by rw [HL.out]; simp [crL, HG.out]
    have hsz := Gr.size_le (gr_ok HG.out)
    have hbm : crL ss (gr ss).bmB = ((gr ss).crN (gr ss).bmB : Nat) := by simp [crL, HG.out]
    have hmi : mirL ss = ((gr ss).mirN : Nat) := by simp [mirL, HG.out]
    have q2 : (ss.length : Int) * ((rowOf ss 0).size : Int) = (((gr ss).n * (gr ss).m : Nat) : Int) := by rw [Int.natCast_mul]; rfl
    have hm5 : (rowOf ss 0).size ≤ 5 := (gr_ok HG.out).m5
    obtain ⟨X, hX⟩ : ∃ X, X = (gr ss).crN (gr ss).totB := ⟨_, rfl⟩
    obtain ⟨B, hB⟩ : ∃ B, B = (gr ss).crN (gr ss).bmB := ⟨_, rfl⟩
    obtain ⟨M, hM⟩ : ∃ M, M = (gr ss).mirN := ⟨_, rfl⟩
    obtain ⟨NM, hNM⟩ : ∃ NM, NM = (gr ss).n * (gr ss).m := ⟨_, rfl⟩
    rw [← hX] at hl hle hE
    rw [← hB] at hE hbm
    rw [← hM] at hle hmi
    rw [← hNM] at hsz hle q2
    have HBM := Lib.hid hbm
    have HMI := Lib.hid hmi
    subst hl
    have e1 : decide ((X : Int) ≤ (NM : Int) - (M : Int)) = true := decide_eq_true (by omega)
    have e2 : decide ((X : Int) ≥ (B : Int)) = true := decide_eq_true (by omega)
    have e2' : decide (B ≤ X) = true := decide_eq_true (by omega)
    have e3 : (((X : Int) - (B : Int)) % 2 == 0) = true := beq_iff_eq.2 (by omega)
    have e4 : (Int.tmod ((X : Int) - (B : Int)) 2 == 0) = true := by rw [Int.tmod_eq_emod_of_nonneg (by omega)]; exact e3
    have hbx : B ≤ X := by omega
    have hx25 : X ≤ 25 := by omega
    have hm25 : M ≤ 25 := by omega
    clear hbm hmi hX hB hM hNM hE
    go_wp2_with fail
    have R := iGridCount_any o1 q1 ss _ (st.texts 0 rfl) lm SZ.out
    rw [HG.out, HMI.out] at R
    refine R.mono ?_
    rintro e W4 ⟨rfl, rfl⟩
    clear R
    go_wp2_with fail
    have R := iCrossBeams_any o1 q1 ss _ (st.texts 0 rfl) lm SZ.out
    rw [HG.out, HBM.out] at R
    refine R.mono ?_
    rintro e W5 ⟨rfl, d⟩
    clear R
    replace st := st.step d
    clear d
    obtain ⟨bb, off, rfl, hc0⟩ := st.textAt 0 rfl (j := 0) (by omega)
    rw [Nat.add_zero] at hc0
    generalize rowOf ss 0 = s0 at *
    go_wp2_with fail
    all_goals
      go_ret
      exact ⟨rfl, st.below⟩

end Go.Proofs.Ytcigmmafmogmkaa.fnTotal
