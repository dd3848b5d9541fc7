/- The walk through the law FnClose: Closed rows make at most as many rounds as rows, and just these for empty grids. (P61) -/
import Derived.Test.YtfpcfolcdpdomaaDrawJoinW
import Derived.Test.YtfpcfolcdpdomaaJoinLawL
import Derived.Test.YtfpcfolcdpdomaaJCloseIW
import Derived.Test.YtfpcfolcdpdomaaStS
namespace Go.Proofs.Ytfpcfolcdpdomaa.fnClose
open Go.RowKit
set_option linter.unusedVariables false

theorem walk (a0 : Option Addr) (cap0 : Nat) (z0 : List Int) (w : World) (c0 : CellsY w a0 z0) (m0 : z0.length ≤ cap0 ∧ cap0 ≤ maxLen) :
    Calls Try.prog 6 #[.slice a0 z0.length cap0] w fun e w' => e = .returned (.bool true) ∧ Below w.heap.size w w' := by
  have m1 : z0.length ≤ maxLen := Nat.le_trans m0.1 m0.2
  by_cases h0 : 1048576 < z0.length
  · unfold maxLen at m1
    clear m0
    go_enter Try.func6, Try.ntmps6
    go_wp2
    go_ret
    exact ⟨rfl, Below.refl _ _⟩
  have l0 : z0.length ≤ 1048576 := by omega
  clear h0
  go_enter Try.func6, Try.ntmps6
  go_wp2_with fail
  refine (DrawJoinClose_any a0 cap0 z0 w c0 m0.1 m0.2).mono ?_
  rintro e W1 ⟨v1, xs, n, m, rfl, n0, n1, mm0, mm1, lx, st⟩
  obtain ⟨o1, q1, rfl⟩ := st.shapeI 0 rfl
  clear c0 m0 m1
  cases hB : ofB n m xs
  all_goals
    have HB := Lib.hid hB
    clear hB
    obtain ⟨L, hL⟩ : ∃ L, L = closeL n m xs := ⟨_, rfl⟩
    have HL := Lib.hid hL
    have nL : (L != L) = false := bne_self_eq_false _
    have eL : (L == L) = true := beq_self_eq_true _
    clear hL
    go_wp2_with fail
    have R := iJoinClose_any n m _ q1 _ _ (st.cells 0 rfl) (st.len 0 rfl)
    rw [← HL.out, HB.out] at R
    refine R.mono ?_
    rintro e W2 ⟨rfl, d⟩
    clear R
    replace st := st.step d
    clear d
    go_wp2_with fail
    have R := sJoinClose_any n m _ q1 _ _ (st.cells 0 rfl) (st.len 0 rfl)
    rw [← HL.out, HB.out] at R
    refine R.mono ?_
    rintro e W3 ⟨rfl, d⟩
    clear R
    replace st := st.step d
    clear d
  · go_wp2_with fail
    go_ret
    exact ⟨rfl, st.below⟩
  · have hC := close_law HB.out
    have B1 := Lib.hid hC.1
    have HF := Lib.hid hC.2.1
    have B2 := Lib.hid hC.2.2.1
    have B3 := Lib.hid hC.2.2.2.1
    have HU := Lib.hid hC.2.2.2.2.1
    have hl0 := hC.2.2.2.2.2.1
    have hl2 := hC.2.2.2.2.2.2
    clear hC
    rw [← HL.out] at HF hl0 hl2
    go_wp2_with fail
    have R := iJoinFlip_any n m o1 q1 xs _ (st.cells 0 rfl) (st.len 0 rfl)
    rw [HB.out] at R
    refine R.mono ?_
    rintro e W4 ⟨v4, rfl, o, b⟩
    clear R
    replace st := st.add o b
    obtain ⟨o4, q4, rfl⟩ := o.shape2
    clear o b
    go_wp2_with fail
    have R := iJoinClose_any n m _ q4 _ _ (st.cells 0 rfl) (st.len 0 rfl)
    rw [HF.out, B1.out] at R
    refine R.mono ?_
    rintro e W5 ⟨rfl, d⟩
    clear R
    replace st := st.step d
    clear d
    go_wp2_with fail
    have R := iJoinUnit_any n m W5
    rw [B2.out] at R
    refine R.mono ?_
    rintro e W6 ⟨v6, rfl, o, b⟩
    clear R
    replace st := st.add o b
    obtain ⟨o6, q6, rfl⟩ := o.shape2
    clear o b
    go_wp2_with fail
    have R := iJoinClose_any n m _ q6 _ _ (st.cells 0 rfl) (st.len 0 rfl)
    rw [HU.out, B3.out] at R
    refine R.mono ?_
    rintro e W7 ⟨rfl, d⟩
    clear R
    replace st := st.step d
    clear d
    go_wp2_with fail
    go_ret
    exact ⟨rfl, st.below⟩

end Go.Proofs.Ytfpcfolcdpdomaa.fnClose
