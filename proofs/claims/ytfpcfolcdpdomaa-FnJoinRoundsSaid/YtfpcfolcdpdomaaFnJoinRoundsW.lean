/- The walk through the law FnJoinRounds: Rounds that come are as many when flipped. (P52) -/
import Derived.Test.YtfpcfolcdpdomaaDrawJoinW
import Derived.Test.YtfpcfolcdpdomaaJoinLawL
import Derived.Test.YtfpcfolcdpdomaaStS
namespace Go.Proofs.Ytfpcfolcdpdomaa.fnJoinRounds
open Go.RowKit
set_option linter.unusedVariables false

theorem walk (a0 : Option Addr) (cap0 : Nat) (z0 : List Int) (w : World) (c0 : CellsY w a0 z0) (m0 : z0.length ≤ cap0 ∧ cap0 ≤ maxLen) :
    Calls Try.prog 8 #[.slice a0 z0.length cap0] w fun e w' => e = .returned (.bool true) ∧ Below w.heap.size w w' := by
  have m1 : z0.length ≤ maxLen := Nat.le_trans m0.1 m0.2
  by_cases h0 : 1048576 < z0.length
  · unfold maxLen at m1
    clear m0
    go_enter Try.func8, Try.ntmps8
    go_wp2
    go_ret
    exact ⟨rfl, Below.refl _ _⟩
  have l0 : z0.length ≤ 1048576 := by omega
  clear h0
  go_enter Try.func8, Try.ntmps8
  go_wp2_with fail
  refine (DrawJoinRounds_any a0 cap0 z0 w c0 m0.1 m0.2).mono ?_
  rintro e W1 ⟨v1, xs, v2, ys, n, m, k, rfl, n0, n1, mm0, mm1, kk0, kk1, lx, ly, st⟩
  obtain ⟨o1, q1, rfl⟩ := st.shapeI 1 rfl
  obtain ⟨o2, q2, rfl⟩ := st.shapeI 0 rfl
  clear c0 m0 m1
  cases hB : twoB n m xs k ys
  all_goals
    have HB := Lib.hid hB
    clear hB
    obtain ⟨L, hL⟩ : ∃ L, L = jroundL n m xs k ys := ⟨_, rfl⟩
    have HL := Lib.hid hL
    have nL : (L != L) = false := bne_self_eq_false _
    have eL : (L == L) = true := beq_self_eq_true _
    clear hL
    go_wp2_with fail
    have R := iJoinRounds_any n m _ q1 _ k _ q2 _ _ (st.cells 1 rfl) (st.len 1 rfl) (st.cells 0 rfl) (st.len 0 rfl)
    rw [← HL.out, HB.out] at R
    refine R.mono ?_
    rintro e W3 ⟨rfl, d⟩
    clear R
    replace st := st.step d
    clear d
    go_wp2_with fail
    have R := sJoinRounds_any n m _ q1 _ k _ q2 _ _ (st.cells 1 rfl) (st.len 1 rfl) (st.cells 0 rfl) (st.len 0 rfl)
    rw [← HL.out, HB.out] at R
    refine R.mono ?_
    rintro e W4 ⟨rfl, d⟩
    clear R
    replace st := st.step d
    clear d
  · go_wp2_with fail
    go_ret
    exact ⟨rfl, st.below⟩
  · have hJ := join_law HB.out
    have B1 := Lib.hid hJ.1
    have B2 := Lib.hid hJ.2.1
    have B3 := Lib.hid hJ.2.2.1
    have HE := Lib.hid hJ.2.2.2.1
    have B4 := Lib.hid hJ.2.2.2.2.1
    have B5 := Lib.hid hJ.2.2.2.2.2.1
    have HR := Lib.hid hJ.2.2.2.2.2.2.1
    have hl0 := hJ.2.2.2.2.2.2.2.1
    have hl2 := hJ.2.2.2.2.2.2.2.2
    clear hJ
    rw [← HL.out] at HR hl0 hl2
    go_wp2_with fail
    have R := iJoinFlip_any n m o1 q1 xs _ (st.cells 1 rfl) (st.len 1 rfl)
    rw [B1.out] at R
    refine R.mono ?_
    rintro e W5 ⟨v5, rfl, o, b⟩
    clear R
    replace st := st.add o b
    obtain ⟨o5, q5, rfl⟩ := o.shape2
    clear o b
    go_wp2_with fail
    have R := iJoinFlip_any n k o2 q2 ys _ (st.cells 1 rfl) (st.len 1 rfl)
    rw [B2.out] at R
    refine R.mono ?_
    rintro e W6 ⟨v6, rfl, o, b⟩
    clear R
    replace st := st.add o b
    obtain ⟨o6, q6, rfl⟩ := o.shape2
    clear o b
    go_wp2_with fail
    have R := iJoinRounds_any n k _ q6 _ m _ q5 _ _ (st.cells 0 rfl) (st.len 0 rfl) (st.cells 1 rfl) (st.len 1 rfl)
    rw [B3.out, HR.out] at R
    refine R.mono ?_
    rintro e W7 ⟨rfl, d⟩
    clear R
    replace st := st.step d
    clear d
    go_wp2_with fail
    go_ret
    exact ⟨rfl, st.below⟩

end Go.Proofs.Ytfpcfolcdpdomaa.fnJoinRounds
