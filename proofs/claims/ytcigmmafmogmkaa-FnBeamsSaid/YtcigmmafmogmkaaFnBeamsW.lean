/- The walk through the law FnBeams: Beams cross as often, but for an even number, as their ports. (P47) -/
import Derived.Test.YtcigmmafmogmkaaCrossDW
import Derived.Test.YtcigmmafmogmkaaCrossLawL
import Derived.Test.YtcigmmafmogmkaaCrossBmW
import Derived.Test.YtcigmmafmogmkaaCrossS2W
import Derived.Test.YtcigmmafmogmkaaChordsW
import Derived.Test.YtcigmmafmogmkaaStS
namespace Go.Proofs.Ytcigmmafmogmkaa.fnBeams
open Go.RowKit
set_option linter.unusedVariables false

set_option maxHeartbeats 2000000 in
theorem walk (a0 : Option Addr) (cap0 : Nat) (z0 : List Int) (w : World) (c0 : CellsY w a0 z0) (m0 : z0.length ≤ cap0 ∧ cap0 ≤ maxLen) :
    Calls Try.prog 8 #[.slice a0 z0.length cap0] w fun e w' => e = .returned (.bool true) ∧ Below w.heap.size w w' := by
  have m1 : z0.length ≤ maxLen := Nat.le_trans m0.1 m0.2
  by_cases h0 : 1048576 < z0.length
  · unfold maxLen at m1
    clear m0
    go_enter Try.func8, Try.ntmps8
    go_wp2
    go_ret
    exact ⟨rfl, Below.refl _ _⟩
  have l0 : z0.length ≤ 1048576 := by omega
  clear h0
  go_enter Try.func8, Try.ntmps8
  go_wp2_with fail
  refine (DrawCrossBeams_any a0 cap0 z0 w c0 m0.1 m0.2).mono ?_
  rintro e W1 ⟨v1, ss, rfl, l1, l5, sz, st⟩
  obtain ⟨o1, q1, rfl⟩ := st.shapeS 0 rfl
  have lm : ss.length ≤ maxLen := by unfold maxLen; omega
  have SZ : Hid (∀ s ∈ ss, s.size ≤ maxLen) := fun s hs => by have := sz s hs; unfold maxLen; omega
  clear c0 m0 m1 sz
  obtain ⟨L, hL⟩ : ∃ L : Int, L = crL ss (gr ss).bmB := ⟨_, rfl⟩
  have HL := Lib.hid hL
  have nL : (L != L) = false := bne_self_eq_false _
  have bL : (L == L) = true := beq_self_eq_true _
  clear hL
  cases hg : gridB ss
  all_goals
    have HG := Lib.hid hg
    clear hg
    go_wp2_with fail
    have R := iCrossBeams_any o1 q1 ss _ (st.texts 0 rfl) lm SZ.out
    rw [HG.out, ← HL.out] at R
    refine R.mono ?_
    rintro e W2 ⟨rfl, d⟩
    clear R
    replace st := st.step d
    clear d
    go_wp2_with fail
    have R := sCrossBeams_any o1 q1 ss _ (st.texts 0 rfl) lm SZ.out
    rw [HG.out, ← HL.out] at R
    refine R.mono ?_
    rintro e W3 ⟨rfl, d⟩
    clear R
    replace st := st.step d
    clear d
  · go_wp2_with fail
    go_ret
    exact ⟨rfl, st.below⟩
  · obtain ⟨hpb, C, t, hC, ht, hle⟩ := beams_law HG.out
    have hl : L = ((gr ss).crN (gr ss).bmB : Nat) := by rw [HL.out]; simp [crL, HG.out]
    have hsz := Gr.size_le (gr_ok HG.out)
    obtain ⟨X, hX⟩ : ∃ X, X = (gr ss).crN (gr ss).bmB := ⟨_, rfl⟩
    rw [← hX] at hl ht hle
    have HPB := Lib.hid hpb
    have HC := Lib.hid hC
    have hFU := Lib.hid fun W (h : CellsS W o1 ss) => GridFull_any o1 q1 ss W h lm SZ.out HG.out
    obtain ⟨M, hM⟩ : ∃ M, M = (gr ss).mirN := ⟨_, rfl⟩
    obtain ⟨NM, hNM⟩ : ∃ NM, NM = (gr ss).n * (gr ss).m := ⟨_, rfl⟩
    rw [← hM, ← hNM] at hle hFU
    rw [← hNM] at hsz
    subst hl
    have e1 : decide ((X : Int) ≥ (C : Int)) = true := decide_eq_true (by omega)
    have e1' : decide (C ≤ X) = true := decide_eq_true (by omega)
    have hT : (X : Int) - (C : Int) = ((2 * t : Nat) : Int) := by omega
    have e2 : ((X : Int) - (C : Int)) % 2 = 0 := by omega
    have e3 : (((X : Int) - (C : Int)) % 2 == 0) = true := beq_iff_eq.2 e2
    have e4 : (Int.tmod ((X : Int) - (C : Int)) 2 == 0) = true := by rw [Int.tmod_eq_emod_of_nonneg (by omega)]; exact e3
    clear e2
    have hcx : C ≤ X := by omega
    have hx25 : X ≤ 25 := by omega
    have HT := Lib.hid ht
    clear hpb hC hX hM hNM hT ht
    go_wp2_with fail
    have R := iBeamPairs_any o1 q1 ss _ (st.texts 0 rfl) lm SZ.out
    rw [HG.out] at R
    refine R.mono ?_
    rintro e W4 ⟨v4, rfl, s2⟩
    clear R
    replace st := st.join s2
    clear s2
    obtain ⟨o4, q4, rfl⟩ := st.shapeI0
    have lB : (beamsB ss).length ≤ maxLen := st.len 0 rfl
    go_wp2_with fail
    have R := iCrossChords_any o4 q4 (beamsB ss) _ (st.cells 0 rfl) (st.len 0 rfl)
    rw [HPB.out, HC.out] at R
    refine R.mono ?_
    rintro e W5 ⟨rfl, rfl⟩
    clear R
    have hMN : M ≤ NM := by omega
    by_cases hf : M = NM
    · have hX0 : X = 0 := by omega
      have hC0 : C = 0 := by have := HT.out; omega
      subst hX0 hC0
      have hfb : (M == NM) = true := beq_iff_eq.2 hf
      rw [hfb] at hFU
      clear hf hfb
      go_wp2_with fail
      refine (hFU.out _ (st.texts 1 rfl)).mono ?_
      rintro e W6 ⟨rfl, rfl⟩
      go_wp2_with fail
      all_goals
        go_ret
        exact ⟨rfl, st.below⟩
    · have hfb : (M == NM) = false := beq_eq_false_iff_ne.2 hf
      rw [hfb] at hFU
      clear hf hfb
      go_wp2_with fail
      refine (hFU.out _ (st.texts 1 rfl)).mono ?_
      rintro e W6 ⟨rfl, rfl⟩
      go_wp2_with fail
      all_goals
        go_ret
        exact ⟨rfl, st.below⟩

end Go.Proofs.Ytcigmmafmogmkaa.fnBeams
