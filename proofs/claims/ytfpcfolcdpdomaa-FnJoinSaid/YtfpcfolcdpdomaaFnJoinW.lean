/- The walk through the law FnJoin: Joined pairings are pairings, flipped as well. (P51) -/
import Derived.Test.YtfpcfolcdpdomaaDrawJoinW
import Derived.Test.YtfpcfolcdpdomaaJoinLawL
import Derived.Test.YtfpcfolcdpdomaaSameW
import Derived.Test.YtfpcfolcdpdomaaStS
namespace Go.Proofs.Ytfpcfolcdpdomaa.fnJoin
open Go.RowKit
set_option linter.unusedVariables false

theorem walk (a0 : Option Addr) (cap0 : Nat) (z0 : List Int) (w : World) (c0 : CellsY w a0 z0) (m0 : z0.length ≤ cap0 ∧ cap0 ≤ maxLen) :
    Calls Try.prog 9 #[.slice a0 z0.length cap0] w fun e w' => e = .returned (.bool true) ∧ Below w.heap.size w w' := by
  have m1 : z0.length ≤ maxLen := Nat.le_trans m0.1 m0.2
  by_cases h0 : 1048576 < z0.length
  · unfold maxLen at m1
    clear m0
    go_enter Try.func9, Try.ntmps9
    go_wp2
    go_ret
    exact ⟨rfl, Below.refl _ _⟩
  have l0 : z0.length ≤ 1048576 := by omega
  clear h0
  go_enter Try.func9, Try.ntmps9
  go_wp2_with fail
  refine (DrawJoinPairs_any a0 cap0 z0 w c0 m0.1 m0.2).mono ?_
  rintro e W1 ⟨v1, xs, v2, ys, n, m, k, rfl, n0, n1, mm0, mm1, kk0, kk1, lx, ly, st⟩
  obtain ⟨o1, q1, rfl⟩ := st.shapeI 1 rfl
  obtain ⟨o2, q2, rfl⟩ := st.shapeI 0 rfl
  clear c0 m0 m1
  cases hB : twoB n m xs k ys
  all_goals
    have HB := Lib.hid hB
    clear hB
    go_wp2_with fail
    have R := iJoinPairs_any n m _ q1 _ k _ q2 _ _ (st.cells 1 rfl) (st.len 1 rfl) (st.cells 0 rfl) (st.len 0 rfl)
    rw [HB.out] at R
    refine R.mono ?_
    rintro e W3 ⟨v3, rfl, o, b⟩
    clear R
    replace st := st.add o b
    obtain ⟨o3, q3, rfl⟩ := o.shape2
    clear o b
    go_wp2_with fail
    have R := sJoinPairs_any n m _ q1 _ k _ q2 _ _ (st.cells 2 rfl) (st.len 2 rfl) (st.cells 1 rfl) (st.len 1 rfl)
    rw [HB.out] at R
    refine R.mono ?_
    rintro e W4 ⟨v4, rfl, o, b⟩
    clear R
    replace st := st.add o b
    obtain ⟨o4, q4, rfl⟩ := o.shape2
    clear o b
    go_wp2_with fail
    refine (sameInts_any _ _ _ _ _ _ _ (st.cells 1 rfl) (st.cells 0 rfl) (st.len 1 rfl) (st.len 0 rfl)).mono ?_
    rintro e W5 ⟨rfl, d⟩
    replace st := st.dr d
    clear d
    rw [eqL_true rfl]
  · go_wp2_with fail
    refine (sameInts_any _ _ _ _ _ _ _ (st.cells 1 rfl) (st.cells 0 rfl) (st.len 1 rfl) (st.len 0 rfl)).mono ?_
    rintro e W6 ⟨rfl, d⟩
    replace st := st.dr d
    clear d
    rw [eqL_true rfl]
    go_wp2_with fail
    go_ret
    exact ⟨rfl, st.below⟩
  · have hJ := join_law HB.out
    have B1 := Lib.hid hJ.1
    have B2 := Lib.hid hJ.2.1
    have B3 := Lib.hid hJ.2.2.1
    have HE := Lib.hid hJ.2.2.2.1
    have B4 := Lib.hid hJ.2.2.2.2.1
    have B5 := Lib.hid hJ.2.2.2.2.2.1
    have HR := Lib.hid hJ.2.2.2.2.2.2.1
    have hl0 := hJ.2.2.2.2.2.2.2.1
    have hl2 := hJ.2.2.2.2.2.2.2.2
    clear hJ
    clear hl0 hl2
    go_wp2_with fail
    have R := iJoinFlip_any n m o1 q1 xs _ (st.cells 3 rfl) (st.len 3 rfl)
    rw [B1.out] at R
    refine R.mono ?_
    rintro e W6 ⟨v6, rfl, o, b⟩
    clear R
    replace st := st.add o b
    obtain ⟨o6, q6, rfl⟩ := o.shape2
    clear o b
    go_wp2_with fail
    have R := iJoinFlip_any n k o2 q2 ys _ (st.cells 3 rfl) (st.len 3 rfl)
    rw [B2.out] at R
    refine R.mono ?_
    rintro e W7 ⟨v7, rfl, o, b⟩
    clear R
    replace st := st.add o b
    obtain ⟨o7, q7, rfl⟩ := o.shape2
    clear o b
    go_wp2_with fail
    have R := iJoinPairs_any n k _ q7 _ m _ q6 _ _ (st.cells 0 rfl) (st.len 0 rfl) (st.cells 1 rfl) (st.len 1 rfl)
    rw [B3.out, HE.out] at R
    refine R.mono ?_
    rintro e W8 ⟨v8, rfl, o, b⟩
    clear R
    replace st := st.add o b
    obtain ⟨o8, q8, rfl⟩ := o.shape2
    clear o b
    go_wp2_with fail
    have R := iJoinFlip_any n (m + k) _ q3 _ _ (st.cells 4 rfl) (st.len 4 rfl)
    rw [B4.out] at R
    refine R.mono ?_
    rintro e W9 ⟨v9, rfl, o, b⟩
    clear R
    replace st := st.add o b
    obtain ⟨o9, q9, rfl⟩ := o.shape2
    clear o b
    go_wp2_with fail
    refine (sameInts_any _ _ _ _ _ _ _ (st.cells 1 rfl) (st.cells 0 rfl) (st.len 1 rfl) (st.len 0 rfl)).mono ?_
    rintro e W10 ⟨rfl, d⟩
    replace st := st.dr d
    clear d
    rw [eqL_true rfl]
    go_wp2_with fail
    have R := iCrossIn_any _ q3 _ _ (st.cells 5 rfl) (st.len 5 rfl)
    rw [B5.out] at R
    refine R.mono ?_
    rintro e W11 ⟨rfl, rfl⟩
    go_wp2_with fail
    go_ret
    exact ⟨rfl, st.below⟩

end Go.Proofs.Ytfpcfolcdpdomaa.fnJoin
