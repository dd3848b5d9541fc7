/- The walk through the law FnCloseBoth: Two pairings closed are the same in both orders. (P62) -/
import Derived.Test.YtfpcfolcdpdomaaDrawJoinW
import Derived.Test.YtfpcfolcdpdomaaCloseBLawL
import Derived.Test.YtfpcfolcdpdomaaJCloseIW
import Derived.Test.YtfpcfolcdpdomaaSameW
import Derived.Test.YtfpcfolcdpdomaaStS
namespace Go.Proofs.Ytfpcfolcdpdomaa.fnCloseBoth
open Go.RowKit
set_option linter.unusedVariables false

theorem walk (a0 : Option Addr) (cap0 : Nat) (z0 : List Int) (w : World) (c0 : CellsY w a0 z0) (m0 : z0.length ≤ cap0 ∧ cap0 ≤ maxLen) :
    Calls Try.prog 10 #[.slice a0 z0.length cap0] w fun e w' => e = .returned (.bool true) ∧ Below w.heap.size w w' := by
  have m1 : z0.length ≤ maxLen := Nat.le_trans m0.1 m0.2
  by_cases h0 : 1048576 < z0.length
  · unfold maxLen at m1
    clear m0
    go_enter Try.func10, Try.ntmps10
    go_wp2
    go_ret
    exact ⟨rfl, Below.refl _ _⟩
  have l0 : z0.length ≤ 1048576 := by omega
  clear h0
  go_enter Try.func10, Try.ntmps10
  go_wp2_with fail
  refine (DrawJoinPairs_any a0 cap0 z0 w c0 m0.1 m0.2).mono ?_
  rintro e W1 ⟨v1, xs, v2, ys, n, m, k, rfl, n0, n1, mm0, mm1, kk0, kk1, lx, ly, st⟩
  obtain ⟨o1, q1, rfl⟩ := st.shapeI 1 rfl
  obtain ⟨o2, q2, rfl⟩ := st.shapeI 0 rfl
  clear c0 m0 m1
  cases hB : twoB n m xs k ys
  all_goals
    have HB := Lib.hid hB
    clear hB
    go_wp2_with fail
    have R := iJoinPairs_any n m _ q1 _ k _ q2 _ _ (st.cells 1 rfl) (st.len 1 rfl) (st.cells 0 rfl) (st.len 0 rfl)
    rw [HB.out] at R
    refine R.mono ?_
    rintro e W3 ⟨v3, rfl, o, b⟩
    clear R
    replace st := st.add o b
    obtain ⟨o3, q3, rfl⟩ := o.shape2
    clear o b
    go_wp2_with fail
    have R := sJoinPairs_any n m _ q1 _ k _ q2 _ _ (st.cells 2 rfl) (st.len 2 rfl) (st.cells 1 rfl) (st.len 1 rfl)
    rw [HB.out] at R
    refine R.mono ?_
    rintro e W4 ⟨v4, rfl, o, b⟩
    clear R
    replace st := st.add o b
    obtain ⟨o4, q4, rfl⟩ := o.shape2
    clear o b
    go_wp2_with fail
    refine (sameInts_any _ _ _ _ _ _ _ (st.cells 1 rfl) (st.cells 0 rfl) (st.len 1 rfl) (st.len 0 rfl)).mono ?_
    rintro e W5 ⟨rfl, d⟩
    replace st := st.dr d
    clear d
    rw [eqL_true rfl]
  · go_wp2_with fail
    refine (sameInts_any _ _ _ _ _ _ _ (st.cells 1 rfl) (st.cells 0 rfl) (st.len 1 rfl) (st.len 0 rfl)).mono ?_
    rintro e W6 ⟨rfl, d⟩
    replace st := st.dr d
    clear d
    rw [eqL_true rfl]
    go_wp2_with fail
    go_ret
    exact ⟨rfl, st.below⟩
  · have hC := closeb_law HB.out
    have B1 := Lib.hid hC.1
    have B2 := Lib.hid hC.2.1
    have B3 := Lib.hid hC.2.2.1
    obtain ⟨X, hX⟩ : ∃ X, X = closeL n (m + k) (jpairL n m xs k ys) := ⟨_, rfl⟩
    obtain ⟨Y, hY⟩ : ∃ Y, Y = closeL n (m + k) (jpairL n k ys m xs) := ⟨_, rfl⟩
    obtain ⟨U, hU⟩ : ∃ U, U = jroundL n m xs k ys := ⟨_, rfl⟩
    obtain ⟨V, hV⟩ : ∃ V, V = jroundL n k ys m xs := ⟨_, rfl⟩
    have hC2 := hC.2.2.2
    rw [← hX, ← hY, ← hU, ← hV] at hC2
    obtain ⟨he, ⟨x0, x1⟩, ⟨y0, y1⟩, ⟨u0, u1⟩, v0, v1'⟩ := hC2
    have eq9 : (X + U == Y + V) = true := beq_iff_eq.2 he
    have HX := Lib.hid hX
    have HY := Lib.hid hY
    have HU := Lib.hid hU
    have HV := Lib.hid hV
    clear hC he hX hY hU hV
    go_wp2_with fail
    have R := iJoinPairs_any n k _ q2 _ m _ q1 _ _ (st.cells 2 rfl) (st.len 2 rfl) (st.cells 3 rfl) (st.len 3 rfl)
    rw [B1.out] at R
    refine R.mono ?_
    rintro e W6 ⟨v6, rfl, o, b⟩
    clear R
    replace st := st.add o b
    obtain ⟨o6, q6, rfl⟩ := o.shape2
    clear o b
    go_wp2_with fail
    have R := iJoinClose_any n (m + k) _ q3 _ _ (st.cells 2 rfl) (st.len 2 rfl)
    rw [B2.out, ← HX.out] at R
    refine R.mono ?_
    rintro e W7 ⟨rfl, d⟩
    clear R
    replace st := st.step d
    clear d
    go_wp2_with fail
    have R := iJoinClose_any n (m + k) _ q6 _ _ (st.cells 0 rfl) (st.len 0 rfl)
    rw [B3.out, ← HY.out] at R
    refine R.mono ?_
    rintro e W8 ⟨rfl, d⟩
    clear R
    replace st := st.step d
    clear d
    go_wp2_with fail
    have R := iJoinRounds_any n m _ q1 _ k _ q2 _ _ (st.cells 4 rfl) (st.len 4 rfl) (st.cells 3 rfl) (st.len 3 rfl)
    rw [HB.out, ← HU.out] at R
    refine R.mono ?_
    rintro e W9 ⟨rfl, d⟩
    clear R
    replace st := st.step d
    clear d
    go_wp2_with fail
    have R := iJoinRounds_any n k _ q2 _ m _ q1 _ _ (st.cells 3 rfl) (st.len 3 rfl) (st.cells 4 rfl) (st.len 4 rfl)
    rw [B1.out, ← HV.out] at R
    refine R.mono ?_
    rintro e W10 ⟨rfl, d⟩
    clear R
    replace st := st.step d
    clear d
    go_wp2_with fail
    go_ret
    exact ⟨rfl, st.below⟩

end Go.Proofs.Ytfpcfolcdpdomaa.fnCloseBoth
