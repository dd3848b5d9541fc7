/- The walk through the law FnBetween: Beams cross an odd number of times just if their ports do. (P42) -/
import Derived.Test.YtecnmikfaoankaaDrawPortW
import Derived.Test.YtecnmikfaoankaaBetwW
import Derived.Test.YtecnmikfaoankaaBetwL
import Derived.Test.YtecnmikfaoankaaStS
namespace Go.Proofs.Ytecnmikfaoankaa.fnBetween
open Go.RowKit
set_option linter.unusedVariables false

theorem walk (a0 : Option Addr) (cap0 : Nat) (z0 : List Int) (w : World) (c0 : CellsY w a0 z0) (m0 : z0.length ≤ cap0 ∧ cap0 ≤ maxLen) :
    Calls Try.prog 6 #[.slice a0 z0.length cap0] w fun e w' => e = .returned (.bool true) ∧ Below w.heap.size w w' := by
  have m1 : z0.length ≤ maxLen := Nat.le_trans m0.1 m0.2
  by_cases h0 : 1048576 < z0.length
  · unfold maxLen at m1
    clear m0
    go_enter Try.func6, Try.ntmps6
    go_wp2
    go_ret
    exact ⟨rfl, Below.refl _ _⟩
  have l0 : z0.length ≤ 1048576 := by omega
  clear h0
  go_enter Try.func6, Try.ntmps6
  go_wp2_with fail
  refine (DrawCrossBetween_any a0 cap0 z0 w c0 m0.1 m0.2).mono ?_
  rintro e W1 ⟨v1, ss, p, q, rfl, l1, l4, sz, st⟩
  obtain ⟨o1, q1, rfl⟩ := st.shapeS 0 rfl
  have lm : ss.length ≤ maxLen := by unfold maxLen; omega
  have szm := sizes_max sz
  clear c0 m0 m1 sz
  obtain ⟨L, hL⟩ : ∃ L : Int, L = betwL ss p q := ⟨_, rfl⟩
  have HL := Lib.hid hL
  have nL : (L != L) = false := bne_self_eq_false _
  clear hL
  cases hb : betwB ss p q
  all_goals
    have HB := Lib.hid hb
    clear hb
    go_wp2_with fail
    have R := iCrossBetween_any o1 q1 ss p q _ (st.texts 0 rfl) lm szm
    rw [HB.out, ← HL.out] at R
    refine R.mono ?_
    rintro e W2 ⟨rfl, b⟩
    clear R
    replace st := st.step b
    clear b
    go_wp2_with fail
    have R := sCrossBetween_any o1 q1 ss p q _ (st.texts 0 rfl) lm szm
    rw [HB.out, ← HL.out] at R
    refine R.mono ?_
    rintro e W3 ⟨rfl, b⟩
    clear R
    replace st := st.step b
    clear b
  · go_wp2_with fail
    go_ret
    exact ⟨rfl, st.below⟩
  · have hb := HB.out
    have hb' := hb
    simp only [betwB, Bool.and_eq_true] at hb
    obtain ⟨hg, p, rfl, hp⟩ := wayB_nat hb.1.1.1
    obtain ⟨_, q, rfl, hq⟩ := wayB_nat hb.1.1.2
    have hok := gr_ok hg
    have hne : p ≠ q := by
      have := hb.1.2
      simp at this
      omega
    have hne2 : (gr ss).endOf p ≠ q := by
      have := hb.2
      simp at this
      omega
    obtain ⟨k1, k2, k3⟩ := Gr.endOf_pair hok hq
    obtain ⟨j1, j2, j3⟩ := Gr.endOf_pair hok hp
    have n1 : p ≠ (gr ss).endOf q := fun e => hne2 (by rw [e, k3])
    have n2 : (gr ss).endOf p ≠ (gr ss).endOf q := fun e => hne (by rw [← j3, e, k3])
    have hb2 : betwB ss q p = true := by
      simp only [betwB, Bool.and_eq_true]
      refine ⟨⟨⟨hb.1.1.2, hb.1.1.1⟩, ?_⟩, ?_⟩
      · simp; omega
      · simp; omega
    have hL1 : L = ((gr ss).betwN p q : Nat) := by rw [HL.out]; simp [betwL, hb']
    have hs2 : betwL ss q p = L := by
      rw [hL1, Gr.betw_comm hok p q]
      simp [betwL, hb2]
    have hodd := Gr.betw_odd hok hp hq hne hne2
    have hpar : (L % 2 == 1) = decide ((gr ss).betwN p q % 2 = 1) := by
      rw [hL1, Bool.eq_iff_iff, beq_iff_eq, decide_eq_true_iff]
      omega
    have HG := Lib.hid hg
    have HP := Lib.hid hp
    have HQ := Lib.hid hq
    have HB2 := Lib.hid hb2
    have HS2 := Lib.hid hs2
    have HODD := Lib.hid hodd
    have HL1 := Lib.hid hL1
    have hL0 : 0 ≤ L := by omega
    clear hb hb' hg hok k1 k2 k3 j1 j3 hb2 hL1 hs2 hodd hp hq
    go_wp2_with fail
    refine (beamEnd_any o1 q1 ss p _ (st.texts 0 rfl) lm szm HG.out HP.out).mono ?_
    rintro e W5 ⟨rfl, b⟩
    replace st := st.step b
    clear b
    go_wp2_with fail
    refine (beamEnd_any o1 q1 ss q _ (st.texts 0 rfl) lm szm HG.out HQ.out).mono ?_
    rintro e W6 ⟨rfl, b⟩
    replace st := st.step b
    clear b
    go_wp2_with fail
    have R := iCrossBetween_any o1 q1 ss q p _ (st.texts 0 rfl) lm szm
    rw [HB2.out, HS2.out] at R
    refine R.mono ?_
    rintro e W7 ⟨rfl, b⟩
    clear R
    replace st := st.step b
    clear b
    generalize (gr ss).endOf p = a at *
    generalize (gr ss).endOf q = b at *
    generalize decide ((gr ss).betwN p q % 2 = 1) = o at *
    have bL : (L == L) = true := beq_self_eq_true _
    have F := Lib.hid (show decide (q < p) = !decide (p < q) ∧ decide (q < a) = !decide (a < q) ∧ decide (b < p) = !decide (p < b) ∧ decide (b < a) = !decide (a < b) by
      refine ⟨?_, ?_, ?_, ?_⟩ <;> rw [← decide_not] <;> exact decide_eq_decide.2 (by omega))
    go_wp2
    all_goals
      go_ret
      refine ⟨ret_bool ?_, st.below⟩
      have ho := HODD.out
      obtain ⟨f1, f2, f3, f4⟩ := F.out
      rw [ho]
      by_cases e1 : p < q <;> by_cases e2 : a < q <;> by_cases e3 : p < b <;> by_cases e4 : a < b <;> first | (exfalso; omega) | (simp [f1, f2, f3, f4, e1, e2, e3, e4])

end Go.Proofs.Ytecnmikfaoankaa.fnBetween
