/- The walk through the law FnJoinTurn: Pairings turned four times are themselves. (P56) -/
import Derived.Test.YtgfkimhkkoopcaaDrawTurnW
import Derived.Test.YtgfkimhkkoopcaaRen
import Derived.Test.YtgfkimhkkoopcaaSameW
import Derived.Test.YtgfkimhkkoopcaaState
namespace Go.Proofs.Ytgfkimhkkoopcaa.fnJoinTurn
open Go.RowKit
set_option linter.unusedVariables false

theorem walk (a0 : Option Addr) (cap0 : Nat) (z0 : List Int) (w : World) (c0 : CellsY w a0 z0) (m0 : z0.length ≤ cap0 ∧ cap0 ≤ maxLen) :
    Calls Try.prog 11 #[.slice a0 z0.length cap0] w fun e w' => e = .returned (.bool true) ∧ Below w.heap.size w w' := by
  have m1 : z0.length ≤ maxLen := Nat.le_trans m0.1 m0.2
  by_cases h0 : 1048576 < z0.length
  · unfold maxLen at m1
    clear m0
    go_enter Try.func11, Try.ntmps11
    go_wp2
    go_ret
    exact ⟨rfl, Below.refl _ _⟩
  have l0 : z0.length ≤ 1048576 := by omega
  clear h0
  have st := St.init w
  go_enter Try.func11, Try.ntmps11
  go_wp2_with fail
  refine (DrawJoinTurn_any a0 cap0 z0 w c0 m0.1 m0.2).mono ?_
  rintro e W1 ⟨v1, xs, n, m, rfl, n0, n1, mm0, mm1, lx, o, b⟩
  replace st := st.add o b
  obtain ⟨o1, q1, rfl⟩ := o.shape2
  clear o b c0 m0 m1
  cases hB : ofB n m xs
  all_goals
    have HB := Lib.hid hB
    clear hB
    go_wp2_with fail
    have R := iJoinTurn_any n m _ q1 _ _ (st.cells 0 rfl) (st.len 0 rfl)
    rw [HB.out] at R
    refine R.mono ?_
    rintro e W2 ⟨v2, rfl, o, b⟩
    clear R
    replace st := st.add o b
    obtain ⟨o2, q2, rfl⟩ := o.shape2
    clear o b
    go_wp2_with fail
    have R := sJoinTurn_any n m _ q1 _ _ (st.cells 1 rfl) (st.len 1 rfl)
    rw [HB.out] at R
    refine R.mono ?_
    rintro e W3 ⟨v3, rfl, o, b⟩
    clear R
    replace st := st.add o b
    obtain ⟨o3, q3, rfl⟩ := o.shape2
    clear o b
    go_wp2_with fail
    refine (sameInts_any _ _ _ _ _ _ _ (st.cells 1 rfl) (st.cells 0 rfl) (st.len 1 rfl) (st.len 0 rfl)).mono ?_
    rintro e W4 ⟨rfl, d⟩
    replace st := st.dr d
    clear d
    rw [eqL_true rfl]
  · go_wp2_with fail
    refine (sameInts_any _ _ _ _ _ _ _ (st.cells 1 rfl) (st.cells 0 rfl) (st.len 1 rfl) (st.len 0 rfl)).mono ?_
    rintro e W5 ⟨rfl, d⟩
    replace st := st.dr d
    clear d
    rw [eqL_true rfl]
    go_wp2_with fail
    go_ret
    exact ⟨rfl, st.below⟩
  · have b1 := (jturn_facts HB.out).2.1
    have ht := (jturn_facts HB.out).2.2.2.1
    have hc := (jturn_facts HB.out).2.2.2.2
    have b2 := (jturn_facts b1).2.1
    have b3 := (jturn_facts b2).2.1
    have h4 := jturn4 HB.out
    have B1 := Lib.hid b1
    have B2 := Lib.hid b2
    have B3 := Lib.hid b3
    have HT := Lib.hid ht
    have HC := Lib.hid hc
    have H4 := Lib.hid h4
    clear b1 b2 b3 ht hc h4
    go_wp2_with fail
    have R := iCrossTurn_any o1 q1 xs n W4 (st.cells 2 rfl) (st.len 2 rfl)
    rw [HT.out, HC.out] at R
    refine R.mono ?_
    rintro e W5 ⟨v5, rfl, o, b⟩
    clear R
    replace st := st.add o b
    obtain ⟨o5, q5, rfl⟩ := o.shape2
    clear o b
    go_wp2_with fail
    have R := iJoinTurn_any m n o2 q2 _ W5 (st.cells 2 rfl) (st.len 2 rfl)
    rw [B1.out] at R
    refine R.mono ?_
    rintro e W6 ⟨v6, rfl, o, b⟩
    clear R
    replace st := st.add o b
    obtain ⟨o6, q6, rfl⟩ := o.shape2
    clear o b
    go_wp2_with fail
    have R := iJoinTurn_any n m o6 q6 _ W6 (st.cells 0 rfl) (st.len 0 rfl)
    rw [B2.out] at R
    refine R.mono ?_
    rintro e W7 ⟨v7, rfl, o, b⟩
    clear R
    replace st := st.add o b
    obtain ⟨o7, q7, rfl⟩ := o.shape2
    clear o b
    go_wp2_with fail
    have R := iJoinTurn_any m n o7 q7 _ W7 (st.cells 0 rfl) (st.len 0 rfl)
    rw [B3.out, H4.out] at R
    refine R.mono ?_
    rintro e W8 ⟨v8, rfl, o, b⟩
    clear R
    replace st := st.add o b
    obtain ⟨o8, q8, rfl⟩ := o.shape2
    clear o b
    go_wp2_with fail
    refine (sameInts_any _ _ _ _ _ _ _ (st.cells 3 rfl) (st.cells 5 rfl) (st.len 3 rfl) (st.len 5 rfl)).mono ?_
    rintro e W9 ⟨rfl, d⟩
    replace st := st.dr d
    clear d
    rw [eqL_true rfl]
    go_wp2_with fail
    refine (sameInts_any _ _ _ _ _ _ _ (st.cells 0 rfl) (st.cells 6 rfl) (st.len 0 rfl) (st.len 6 rfl)).mono ?_
    rintro e W10 ⟨rfl, d⟩
    replace st := st.dr d
    clear d
    rw [eqL_true rfl]
    go_wp2_with fail
    go_ret
    exact ⟨rfl, st.below⟩

end Go.Proofs.Ytgfkimhkkoopcaa.fnJoinTurn
