/- The walk through the law FnExactCrossIn: The program's CrossIn returns what the reference's returns, for all arguments. -/
import Derived.Test.YtgfkimhkkoopcaaPairsW
import Derived.Test.YtgfkimhkkoopcaaHelpW
import Derived.Test.YtgfkimhkkoopcaaState
namespace Go.Proofs.Ytgfkimhkkoopcaa.fnExactCrossIn
open Go.RowKit
set_option linter.unusedVariables false

theorem walk (a0 : Option Addr) (cap0 : Nat) (z0 : List Int) (w : World) (c0 : CellsI w a0 z0) (m0 : z0.length ≤ maxLen) :
    Calls Try.prog 4 #[.slice a0 z0.length cap0] w fun e w' => e = .returned (.bool true) ∧ Below w.heap.size w w' := by
  by_cases h0 : 1048576 < z0.length
  · go_enter Try.func4, Try.ntmps4
    go_wp2
    go_ret
    exact ⟨rfl, Below.refl _ _⟩
  have n0 : z0.length ≤ 1048576 := by omega
  have st := St.init w
  obtain ⟨B, hB⟩ : ∃ B : Bool, B = pairsB z0 := ⟨_, rfl⟩
  have HB := Lib.hid hB
  have nB : (B != B) = false := bne_self_eq_false _
  clear hB
  go_enter Try.func4, Try.ntmps4
  go_wp2_with fail
  refine (toIntS_any _ _ _ _ (st.old c0) n0).mono ?_
  rintro e W1 ⟨v1, rfl, o, b⟩
  replace st := st.add o b
  obtain ⟨o1, k1, rfl⟩ := o.shape2
  clear o b
  go_wp2_with fail
  have R := sCrossIn_any _ k1 _ _ (st.cells 0 rfl) (st.len 0 rfl)
  rw [← HB.out] at R
  refine R.mono ?_
  rintro e W' ⟨rfl, rfl⟩
  clear R
  go_wp2_with fail
  refine (toIntS_any _ _ _ _ (st.old c0) n0).mono ?_
  rintro e W3 ⟨v3, rfl, o, b⟩
  replace st := st.add o b
  obtain ⟨o3, k3, rfl⟩ := o.shape2
  clear o b
  go_wp2_with fail
  have R := iCrossIn_any _ k3 _ _ (st.cells 0 rfl) (st.len 0 rfl)
  rw [← HB.out] at R
  refine R.mono ?_
  rintro e W' ⟨rfl, rfl⟩
  clear R
  go_wp2_with fail
  refine (toIntS_any _ _ _ _ (st.old c0) n0).mono ?_
  rintro e W5 ⟨v5, rfl, o, b⟩
  replace st := st.add o b
  obtain ⟨o5, k5, rfl⟩ := o.shape2
  clear o b
  go_wp2_with fail
  refine (eqIntS_any _ _ _ _ _ _ _ (st.cells 1 rfl) (st.cells 0 rfl) (st.len 1 rfl) (st.len 0 rfl)).mono ?_
  rintro e W6 ⟨rfl, d⟩
  replace st := st.dr d
  clear d
  rw [eqL_true rfl]
  go_wp2_with fail
  go_ret
  exact ⟨rfl, st.below⟩

end Go.Proofs.Ytgfkimhkkoopcaa.fnExactCrossIn
