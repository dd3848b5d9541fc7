/- The walk through the law FnCrossSelf: Beams cross themselves where they go twice through empty cells. (P43) -/
import Derived.Test.YtecnmikfaoankaaDrawPortW
import Derived.Test.YtecnmikfaoankaaStraightL
import Derived.Test.YtecnmikfaoankaaStS
namespace Go.Proofs.Ytecnmikfaoankaa.fnCrossSelf
open Go.RowKit
set_option linter.unusedVariables false

theorem walk (a0 : Option Addr) (cap0 : Nat) (z0 : List Int) (w : World) (c0 : CellsY w a0 z0) (m0 : z0.length ≤ cap0 ∧ cap0 ≤ maxLen) :
    Calls Try.prog 9 #[.slice a0 z0.length cap0] w fun e w' => e = .returned (.bool true) ∧ Below w.heap.size w w' := by
  have m1 : z0.length ≤ maxLen := Nat.le_trans m0.1 m0.2
  by_cases h0 : 1048576 < z0.length
  · unfold maxLen at m1
    clear m0
    go_enter Try.func9, Try.ntmps9
    go_wp2
    go_ret
    exact ⟨rfl, Below.refl _ _⟩
  have l0 : z0.length ≤ 1048576 := by omega
  clear h0
  go_enter Try.func9, Try.ntmps9
  go_wp2_with fail
  refine (DrawCrossSelf_any a0 cap0 z0 w c0 m0.1 m0.2).mono ?_
  rintro e W1 ⟨v1, ss, p, rfl, l1, l4, sz, st⟩
  obtain ⟨o1, q1, rfl⟩ := st.shapeS 0 rfl
  have lm : ss.length ≤ maxLen := by unfold maxLen; omega
  have szm := sizes_max sz
  clear c0 m0 m1 sz
  obtain ⟨L, hL⟩ : ∃ L : Int, L = selfL ss p := ⟨_, rfl⟩
  have HL := Lib.hid hL
  have nL : (L != L) = false := bne_self_eq_false _
  clear hL
  cases hb : wayB ss p
  all_goals
    have HB := Lib.hid hb
    clear hb
    go_wp2_with fail
    have R := iCrossSelf_any o1 q1 ss p _ (st.texts 0 rfl) lm szm
    rw [HB.out, ← HL.out] at R
    refine R.mono ?_
    rintro e W2 ⟨rfl, b⟩
    clear R
    replace st := st.step b
    clear b
    go_wp2_with fail
    have R := sCrossSelf_any o1 q1 ss p _ (st.texts 0 rfl) lm szm
    rw [HB.out, ← HL.out] at R
    refine R.mono ?_
    rintro e W3 ⟨rfl, b⟩
    clear R
    replace st := st.step b
    clear b
  · go_wp2_with fail
    go_ret
    exact ⟨rfl, st.below⟩
  · obtain ⟨hg, q, rfl, hq⟩ := wayB_nat HB.out
    have hok := gr_ok hg
    have hE := (Gr.endOf_pair hok hq).1
    have hb2 : wayB ss ((gr ss).endOf q : Nat) = true := by
      simp only [wayB, hg, Bool.true_and, inB_iff]
      omega
    have hs2 : selfL ss ((gr ss).endOf q : Nat) = L := by
      have h1 : selfL ss ((gr ss).endOf q : Nat) = ((gr ss).selfN ((gr ss).endOf q) : Nat) := by simp [selfL, hb2]
      have h2 : selfL ss (q : Nat) = ((gr ss).selfN q : Nat) := by simp [selfL, HB.out]
      rw [HL.out, h1, h2, Gr.self_back hok hq]
    have hT : L ≤ twiceL ss q := by
      have h2 : selfL ss (q : Nat) = ((gr ss).selfN q : Nat) := by simp [selfL, HB.out]
      have h3 : twiceL ss (q : Nat) = ((gr ss).twiceN q : Nat) := by simp [twiceL, HB.out]
      have := Gr.self_twice (gr ss) q
      rw [HL.out, h2, h3]
      omega
    have hM : 0 < mirL ss ∨ (mirL ss = 0 ∧ L = 0) := by
      have h1 : mirL ss = ((gr ss).mirN : Nat) := by simp [mirL, hg]
      by_cases h0 : (gr ss).mirN = 0
      · right
        have h2 : selfL ss (q : Nat) = ((gr ss).selfN q : Nat) := by simp [selfL, HB.out]
        rw [HL.out, h2, h1, Gr.straight_self hok h0 hq, h0]
        exact ⟨rfl, rfl⟩
      · left
        omega
    have HG := Lib.hid hg
    have HQ := Lib.hid hq
    have HB2 := Lib.hid hb2
    have HS2 := Lib.hid hs2
    clear hg hok hE hb2 hs2 hq
    go_wp2_with fail
    have R := iBeamTwice_any o1 q1 ss q _ (st.texts 0 rfl) lm szm
    rw [HB.out] at R
    refine R.mono ?_
    rintro e W4 ⟨rfl, b⟩
    clear R
    replace st := st.step b
    clear b
    generalize twiceL ss q = Tw at *
    go_wp2_with fail
    refine (beamEnd_any o1 q1 ss q _ (st.texts 0 rfl) lm szm HG.out HQ.out).mono ?_
    rintro e W5 ⟨rfl, b⟩
    replace st := st.step b
    clear b
    go_wp2_with fail
    have R := iCrossSelf_any o1 q1 ss ((gr ss).endOf q : Nat) _ (st.texts 0 rfl) lm szm
    rw [HB2.out, HS2.out] at R
    refine R.mono ?_
    rintro e W6 ⟨rfl, b⟩
    clear R
    replace st := st.step b
    clear b
    go_wp2_with fail
    have R := iGridCount_any o1 q1 ss _ (st.texts 0 rfl) lm szm
    rw [HG.out] at R
    refine R.mono ?_
    rintro e W7 ⟨rfl, rfl⟩
    clear R
    generalize mirL ss = Mc at *
    have bL : (L == L) = true := beq_self_eq_true _
    rcases hM with hM | ⟨rfl, rfl⟩
    all_goals
      go_wp2
      all_goals
        go_ret
        exact ⟨rfl, st.below⟩

end Go.Proofs.Ytecnmikfaoankaa.fnCrossSelf
