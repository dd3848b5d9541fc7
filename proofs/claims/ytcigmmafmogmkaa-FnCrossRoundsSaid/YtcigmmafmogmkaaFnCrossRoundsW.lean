/- The walk through the law FnCrossRounds: Rounds cross each other an even number of times. (P49) -/
import Derived.Test.YtcigmmafmogmkaaCrossDW
import Derived.Test.YtcigmmafmogmkaaTwice2L
import Derived.Test.YtcigmmafmogmkaaCrossS2W
import Derived.Test.YtcigmmafmogmkaaCrossSW
import Derived.Test.YtcigmmafmogmkaaStS
namespace Go.Proofs.Ytcigmmafmogmkaa.fnCrossRounds
open Go.RowKit
set_option linter.unusedVariables false

set_option maxHeartbeats 2000000 in
theorem walk (a0 : Option Addr) (cap0 : Nat) (z0 : List Int) (w : World) (c0 : CellsY w a0 z0) (m0 : z0.length ≤ cap0 ∧ cap0 ≤ maxLen) :
    Calls Try.prog 7 #[.slice a0 z0.length cap0] w fun e w' => e = .returned (.bool true) ∧ Below w.heap.size w w' := by
  have m1 : z0.length ≤ maxLen := Nat.le_trans m0.1 m0.2
  by_cases h0 : 1048576 < z0.length
  · unfold maxLen at m1
    clear m0
    go_enter Try.func7, Try.ntmps7
    go_wp2
    go_ret
    exact ⟨rfl, Below.refl _ _⟩
  have l0 : z0.length ≤ 1048576 := by omega
  clear h0
  go_enter Try.func7, Try.ntmps7
  go_wp2_with fail
  refine (DrawCrossRounds_any a0 cap0 z0 w c0 m0.1 m0.2).mono ?_
  rintro e W1 ⟨v1, ss, rfl, l1, l5, sz, st⟩
  obtain ⟨o1, q1, rfl⟩ := st.shapeS 0 rfl
  have lm : ss.length ≤ maxLen := by unfold maxLen; omega
  have SZ : Hid (∀ s ∈ ss, s.size ≤ maxLen) := fun s hs => by have := sz s hs; unfold maxLen; omega
  clear c0 m0 m1 sz
  obtain ⟨L, hL⟩ : ∃ L : Int, L = crL ss (gr ss).rdB := ⟨_, rfl⟩
  have HL := Lib.hid hL
  have nL : (L != L) = false := bne_self_eq_false _
  have bL : (L == L) = true := beq_self_eq_true _
  clear hL
  cases hg : gridB ss
  all_goals
    have HG := Lib.hid hg
    clear hg
    go_wp2_with fail
    have R := iCrossRounds_any o1 q1 ss _ (st.texts 0 rfl) lm SZ.out
    rw [HG.out, ← HL.out] at R
    refine R.mono ?_
    rintro e W2 ⟨rfl, d⟩
    clear R
    replace st := st.step d
    clear d
    go_wp2_with fail
    have R := sCrossRounds_any o1 q1 ss _ (st.texts 0 rfl) lm SZ.out
    rw [HG.out, ← HL.out] at R
    refine R.mono ?_
    rintro e W3 ⟨rfl, d⟩
    clear R
    replace st := st.step d
    clear d
  · go_wp2_with fail
    go_ret
    exact ⟨rfl, st.below⟩
  · obtain ⟨⟨E, hE⟩, hle⟩ := rounds_law HG.out
    have htw := Gr.rd_twice (gr_ok HG.out)
    have hl : L = ((gr ss).crN (gr ss).rdB : Nat) := by rw [HL.out]; simp [crL, HG.out]
    have hsz := Gr.size_le (gr_ok HG.out)
    have hbm : crL ss (gr ss).bmB = ((gr ss).crN (gr ss).bmB : Nat) := by simp [crL, HG.out]
    have hto : crL ss (gr ss).totB = ((gr ss).crN (gr ss).totB : Nat) := by simp [crL, HG.out]
    have hto25 : (gr ss).crN (gr ss).totB ≤ 25 := Nat.le_trans (cntN_le _ _) hsz
    obtain ⟨X, hX⟩ : ∃ X, X = (gr ss).crN (gr ss).rdB := ⟨_, rfl⟩
    obtain ⟨B, hB⟩ : ∃ B, B = (gr ss).crN (gr ss).bmB := ⟨_, rfl⟩
    obtain ⟨C, hC⟩ : ∃ C, C = (gr ss).crN (gr ss).totB := ⟨_, rfl⟩
    obtain ⟨T, hT⟩ : ∃ T, T = (gr ss).rtwoN := ⟨_, rfl⟩
    rw [← hX] at hl hle hE htw
    rw [← hB] at hle hbm
    rw [← hC] at hle hto hto25
    rw [← hT] at htw
    have HBM := Lib.hid hbm
    have HTO := Lib.hid hto
    have HT := Lib.hid hT
    have HRT := RoundTwice_any o1 q1 ss W3 (st.texts 0 rfl) lm SZ.out HG.out
    rw [← HT.out] at HRT
    subst hl
    have e1 : decide ((X : Int) ≤ (T : Int)) = true := decide_eq_true (by omega)
    have e1' : decide (X ≤ T) = true := decide_eq_true htw
    have e2 : decide ((X : Int) + (B : Int) ≤ (C : Int)) = true := decide_eq_true (by omega)
    have e2' : decide (X + B ≤ C) = true := decide_eq_true hle
    have e3 : ((X : Int) % 2 == 0) = true := beq_iff_eq.2 (by omega)
    have e4 : (Int.tmod (X : Int) 2 == 0) = true := by rw [Int.tmod_eq_emod_of_nonneg (by omega)]; exact e3
    have hx25 : X ≤ 25 := by omega
    have hb25 : B ≤ 25 := by omega
    clear hbm hto hX hB hC hT hE hsz
    go_wp2_with fail
    refine HRT.mono ?_
    rintro e W4 ⟨rfl, d⟩
    clear HRT
    replace st := st.step d
    clear d
    go_wp2_with fail
    have R := iCrossBeams_any o1 q1 ss _ (st.texts 0 rfl) lm SZ.out
    rw [HG.out, HBM.out] at R
    refine R.mono ?_
    rintro e W5 ⟨rfl, d⟩
    clear R
    replace st := st.step d
    clear d
    go_wp2_with fail
    have R := iCrossTotal_any o1 q1 ss _ (st.texts 0 rfl) lm SZ.out
    rw [HG.out, HTO.out] at R
    refine R.mono ?_
    rintro e W6 ⟨rfl, d⟩
    clear R
    replace st := st.step d
    clear d
    go_wp2_with fail
    all_goals
      go_ret
      exact ⟨rfl, st.below⟩

end Go.Proofs.Ytcigmmafmogmkaa.fnCrossRounds
