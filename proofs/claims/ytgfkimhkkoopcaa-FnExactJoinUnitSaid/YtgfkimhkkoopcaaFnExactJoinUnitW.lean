/- The walk through the law FnExactJoinUnit: The program's JoinUnit returns what the reference's returns, for all arguments. -/
import Derived.Test.YtgfkimhkkoopcaaUnitW
import Derived.Test.YtgfkimhkkoopcaaHelpW
import Derived.Test.YtgfkimhkkoopcaaState
namespace Go.Proofs.Ytgfkimhkkoopcaa.fnExactJoinUnit
open Go.RowKit
set_option linter.unusedVariables false

theorem walk (a0 : Int) (a1 : Int) (w : World) :
    Calls Try.prog 8 #[.int .i64 a0, .int .i64 a1] w fun e w' => e = .returned (.bool true) ∧ Below w.heap.size w w' := by
  have h0 : 0 < 1 := by omega
  have st := St.init w
  obtain ⟨L, hL⟩ : ∃ L, L = unitL a0 a1 := ⟨_, rfl⟩
  obtain ⟨B, hB⟩ : ∃ B, B = unitB a0 a1 := ⟨_, rfl⟩
  have HL := Lib.hid hL
  have HB := Lib.hid hB
  have lL : L.length ≤ 1048576 := by rw [hL]; exact unitL_le a0 a1
  have bb : (B != B) = false := by cases B <;> rfl
  clear hL hB
  go_enter Try.func8, Try.ntmps8
  go_wp2_with fail
  have R := sJoinUnit_any a0 a1 w
  rw [← HL.out, ← HB.out] at R
  refine R.mono ?_
  rintro e W1 ⟨v1, rfl, o, b⟩
  clear R
  replace st := st.add o b
  obtain ⟨o1, k1, rfl⟩ := o.shape2
  clear o b
  go_wp2_with fail
  have R := iJoinUnit_any a0 a1 W1
  rw [← HL.out, ← HB.out] at R
  refine R.mono ?_
  rintro e W2 ⟨v2, rfl, o, b⟩
  clear R
  replace st := st.add o b
  obtain ⟨o2, k2, rfl⟩ := o.shape2
  clear o b
  go_wp2_with fail
  refine (eqIntS_any _ _ _ _ _ _ _ (st.cells 0 rfl) (st.cells 1 rfl) (st.len 0 rfl) (st.len 1 rfl)).mono ?_
  rintro e W3 ⟨rfl, d⟩
  replace st := st.dr d
  clear d
  rw [eqL_true rfl]
  go_wp2_with fail
  refine (markIntS_any _ _ 1 _ _ (st.get 0 rfl) lL (by omega) (by omega)).mono ?_
  rintro e W4 ⟨rfl, o, g⟩
  replace st := st.write0 o g
  clear o g
  go_wp2_with fail
  refine (heldIntS_any _ _ 1 _ _ (st.cells 0 rfl) lL (by omega) (by omega)).mono ?_
  rintro e W' ⟨rfl, rfl⟩
  go_wp2_with fail
  have R := iJoinUnit_any a0 a1 W4
  rw [← HL.out, ← HB.out] at R
  refine R.mono ?_
  rintro e W5 ⟨v5, rfl, o, b⟩
  clear R
  replace st := st.add o b
  obtain ⟨o5, k5, rfl⟩ := o.shape2
  clear o b
  go_wp2_with fail
  refine (eqIntS_any _ _ _ _ _ _ _ (st.cells 0 rfl) (st.cells 2 rfl) (st.len 0 rfl) (st.len 2 rfl)).mono ?_
  rintro e W6 ⟨rfl, d⟩
  replace st := st.dr d
  clear d
  rw [eqL_true rfl]
  go_wp2_with fail
  refine (heldIntS_any _ _ 1 _ _ (st.cells 1 rfl) lL (by omega) (by omega)).mono ?_
  rintro e W' ⟨rfl, rfl⟩
  go_wp2_with fail
  go_ret
  exact ⟨rfl, st.below⟩

end Go.Proofs.Ytgfkimhkkoopcaa.fnExactJoinUnit
