/- The walk through the law FnJoinChords: Joined pairings without crossings have none. (P60) -/
import Derived.Test.YtfpcfolcdpdomaaDrawJoinW
import Derived.Test.YtfpcfolcdpdomaaPlanarLawL
import Derived.Test.YtfpcfolcdpdomaaChordsW
import Derived.Test.YtfpcfolcdpdomaaSameW
import Derived.Test.YtfpcfolcdpdomaaStS
namespace Go.Proofs.Ytfpcfolcdpdomaa.fnJoinChords
open Go.RowKit
set_option linter.unusedVariables false

theorem walk (a0 : Option Addr) (cap0 : Nat) (z0 : List Int) (w : World) (c0 : CellsY w a0 z0) (m0 : z0.length ≤ cap0 ∧ cap0 ≤ maxLen) :
    Calls Try.prog 7 #[.slice a0 z0.length cap0] w fun e w' => e = .returned (.bool true) ∧ Below w.heap.size w w' := by
  have m1 : z0.length ≤ maxLen := Nat.le_trans m0.1 m0.2
  by_cases h0 : 1048576 < z0.length
  · unfold maxLen at m1
    clear m0
    go_enter Try.func7, Try.ntmps7
    go_wp2
    go_ret
    exact ⟨rfl, Below.refl _ _⟩
  have l0 : z0.length ≤ 1048576 := by omega
  clear h0
  go_enter Try.func7, Try.ntmps7
  go_wp2_with fail
  refine (DrawJoinPairs_any a0 cap0 z0 w c0 m0.1 m0.2).mono ?_
  rintro e W1 ⟨v1, xs, v2, ys, n, m, k, rfl, n0, n1, mm0, mm1, kk0, kk1, lx, ly, st⟩
  obtain ⟨o1, q1, rfl⟩ := st.shapeI 1 rfl
  obtain ⟨o2, q2, rfl⟩ := st.shapeI 0 rfl
  clear c0 m0 m1
  cases hB : twoB n m xs k ys
  all_goals
    have HB := Lib.hid hB
    clear hB
    go_wp2_with fail
    have R := iJoinPairs_any n m _ q1 _ k _ q2 _ _ (st.cells 1 rfl) (st.len 1 rfl) (st.cells 0 rfl) (st.len 0 rfl)
    rw [HB.out] at R
    refine R.mono ?_
    rintro e W3 ⟨v3, rfl, o, b⟩
    clear R
    replace st := st.add o b
    obtain ⟨o3, q3, rfl⟩ := o.shape2
    clear o b
    go_wp2_with fail
    have R := sJoinPairs_any n m _ q1 _ k _ q2 _ _ (st.cells 2 rfl) (st.len 2 rfl) (st.cells 1 rfl) (st.len 1 rfl)
    rw [HB.out] at R
    refine R.mono ?_
    rintro e W4 ⟨v4, rfl, o, b⟩
    clear R
    replace st := st.add o b
    obtain ⟨o4, q4, rfl⟩ := o.shape2
    clear o b
    go_wp2_with fail
    refine (sameInts_any _ _ _ _ _ _ _ (st.cells 1 rfl) (st.cells 0 rfl) (st.len 1 rfl) (st.len 0 rfl)).mono ?_
    rintro e W5 ⟨rfl, d⟩
    replace st := st.dr d
    clear d
    rw [eqL_true rfl]
  · go_wp2_with fail
    refine (sameInts_any _ _ _ _ _ _ _ (st.cells 1 rfl) (st.cells 0 rfl) (st.len 1 rfl) (st.len 0 rfl)).mono ?_
    rintro e W6 ⟨rfl, d⟩
    replace st := st.dr d
    clear d
    rw [eqL_true rfl]
    go_wp2_with fail
    go_ret
    exact ⟨rfl, st.below⟩
  · have hC := chords_law HB.out
    obtain ⟨X, hX⟩ : ∃ X, X = chordsN xs := ⟨_, rfl⟩
    obtain ⟨Y, hY⟩ : ∃ Y, Y = chordsN ys := ⟨_, rfl⟩
    obtain ⟨Z, hZ⟩ : ∃ Z, Z = chordsN (jpairL n m xs k ys) := ⟨_, rfl⟩
    rw [← hX, ← hY, ← hZ] at hC
    have B1 := Lib.hid hC.1
    have B2 := Lib.hid hC.2.1
    have B3 := Lib.hid hC.2.2.1
    have hq := hC.2.2.2
    have HX := Lib.hid hX
    have HY := Lib.hid hY
    have HZ := Lib.hid hZ
    clear hC hX hY hZ
    go_wp2_with fail
    have R := iCrossChords_any _ q1 xs _ (st.cells 3 rfl) (st.len 3 rfl)
    rw [B1.out, ← HX.out] at R
    refine R.mono ?_
    rintro e W6 ⟨rfl, rfl⟩
    clear R
    go_wp2_with fail
    have R := iCrossChords_any _ q2 ys _ (st.cells 2 rfl) (st.len 2 rfl)
    rw [B2.out, ← HY.out] at R
    refine R.mono ?_
    rintro e W7 ⟨rfl, rfl⟩
    clear R
    go_wp2_with fail
    have R := iCrossChords_any _ q3 _ _ (st.cells 1 rfl) (st.len 1 rfl)
    rw [B3.out, ← HZ.out] at R
    refine R.mono ?_
    rintro e W8 ⟨rfl, rfl⟩
    clear R
    have HB9 := Lib.hid st.below
    clear st
    rcases hq with h0 | ⟨h0, h1⟩ | ⟨h0, h1, h2⟩
    · have e1 : decide (X > 0) = true := decide_eq_true h0
      go_wp2_with fail
      go_ret
      exact ⟨rfl, HB9.out⟩
    · have e1 : decide (X > 0) = false := decide_eq_false (by omega)
      have e2 : decide (Y > 0) = true := decide_eq_true h1
      clear h0
      go_wp2_with fail
      go_ret
      exact ⟨rfl, HB9.out⟩
    · have e1 : decide (X > 0) = false := decide_eq_false (by omega)
      have e2 : decide (Y > 0) = false := decide_eq_false (by omega)
      have e3 : (Z == 0) = true := beq_iff_eq.2 h2
      clear h0 h1 h2
      go_wp2_with fail
      go_ret
      exact ⟨rfl, HB9.out⟩

end Go.Proofs.Ytfpcfolcdpdomaa.fnJoinChords
