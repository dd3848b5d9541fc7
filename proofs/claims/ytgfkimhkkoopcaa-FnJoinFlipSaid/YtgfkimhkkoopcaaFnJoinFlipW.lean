/- The walk through the law FnJoinFlip: Pairings flipped twice are themselves, and those of grids flipped. (P54) -/
import Derived.Test.YtgfkimhkkoopcaaDrawTurnW
import Derived.Test.YtgfkimhkkoopcaaRen
import Derived.Test.YtgfkimhkkoopcaaSameW
import Derived.Test.YtgfkimhkkoopcaaState
namespace Go.Proofs.Ytgfkimhkkoopcaa.fnJoinFlip
open Go.RowKit
set_option linter.unusedVariables false

theorem walk (a0 : Option Addr) (cap0 : Nat) (z0 : List Int) (w : World) (c0 : CellsY w a0 z0) (m0 : z0.length ≤ cap0 ∧ cap0 ≤ maxLen) :
    Calls Try.prog 14 #[.slice a0 z0.length cap0] w fun e w' => e = .returned (.bool true) ∧ Below w.heap.size w w' := by
  have m1 : z0.length ≤ maxLen := Nat.le_trans m0.1 m0.2
  by_cases h0 : 1048576 < z0.length
  · unfold maxLen at m1
    clear m0
    go_enter Try.func14, Try.ntmps14
    go_wp2
    go_ret
    exact ⟨rfl, Below.refl _ _⟩
  have l0 : z0.length ≤ 1048576 := by omega
  clear h0
  have st := St.init w
  go_enter Try.func14, Try.ntmps14
  go_wp2_with fail
  refine (DrawJoinFlip_any a0 cap0 z0 w c0 m0.1 m0.2).mono ?_
  rintro e W1 ⟨v1, xs, n, m, rfl, n0, n1, mm0, mm1, lx, o, b⟩
  replace st := st.add o b
  obtain ⟨o1, q1, rfl⟩ := o.shape2
  clear o b c0 m0 m1
  cases hB : ofB n m xs
  all_goals
    have HB := Lib.hid hB
    clear hB
    go_wp2_with fail
    have R := iJoinFlip_any n m _ q1 _ _ (st.cells 0 rfl) (st.len 0 rfl)
    rw [HB.out] at R
    refine R.mono ?_
    rintro e W2 ⟨v2, rfl, o, b⟩
    clear R
    replace st := st.add o b
    obtain ⟨o2, q2, rfl⟩ := o.shape2
    clear o b
    go_wp2_with fail
    have R := sJoinFlip_any n m _ q1 _ _ (st.cells 1 rfl) (st.len 1 rfl)
    rw [HB.out] at R
    refine R.mono ?_
    rintro e W3 ⟨v3, rfl, o, b⟩
    clear R
    replace st := st.add o b
    obtain ⟨o3, q3, rfl⟩ := o.shape2
    clear o b
    go_wp2_with fail
    refine (sameInts_any _ _ _ _ _ _ _ (st.cells 1 rfl) (st.cells 0 rfl) (st.len 1 rfl) (st.len 0 rfl)).mono ?_
    rintro e W4 ⟨rfl, d⟩
    replace st := st.dr d
    clear d
    rw [eqL_true rfl]
  · go_wp2_with fail
    refine (sameInts_any _ _ _ _ _ _ _ (st.cells 1 rfl) (st.cells 0 rfl) (st.len 1 rfl) (st.len 0 rfl)).mono ?_
    rintro e W5 ⟨rfl, d⟩
    replace st := st.dr d
    clear d
    rw [eqL_true rfl]
    go_wp2_with fail
    go_ret
    exact ⟨rfl, st.below⟩
  · have b1 := (jflip_facts HB.out).2.1
    have h4 := (jflip_facts HB.out).2.2.2
    have B1 := Lib.hid b1
    have H4 := Lib.hid h4
    clear b1 h4
    go_wp2_with fail
    have R := iJoinFlip_any n m o2 q2 _ W4 (st.cells 1 rfl) (st.len 1 rfl)
    rw [B1.out, H4.out] at R
    refine R.mono ?_
    rintro e W5 ⟨v5, rfl, o, b⟩
    clear R
    replace st := st.add o b
    obtain ⟨o5, q5, rfl⟩ := o.shape2
    clear o b
    go_wp2_with fail
    refine (sameInts_any _ _ _ _ _ _ _ (st.cells 0 rfl) (st.cells 3 rfl) (st.len 0 rfl) (st.len 3 rfl)).mono ?_
    rintro e W6 ⟨rfl, d⟩
    replace st := st.dr d
    clear d
    rw [eqL_true rfl]
    go_wp2_with fail
    go_ret
    exact ⟨rfl, st.below⟩

end Go.Proofs.Ytgfkimhkkoopcaa.fnJoinFlip
