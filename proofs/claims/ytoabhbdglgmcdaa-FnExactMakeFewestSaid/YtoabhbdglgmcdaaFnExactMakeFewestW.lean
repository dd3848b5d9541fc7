/- The walk through the law FnExactMakeFewest: The program's MakeFewest returns what the reference's returns, for all arguments. -/
import Derived.Test.YtoabhbdglgmcdaaMakeSW
import Derived.Test.YtoabhbdglgmcdaaHelpW
import Derived.Test.YtoabhbdglgmcdaaStS
namespace Go.Proofs.Ytoabhbdglgmcdaa.fnExactMakeFewest
open Go.RowKit
set_option linter.unusedVariables false

theorem walk (a0 : Int) (a1 : Int) (a2 : Option Addr) (cap2 : Nat) (z2 : List Int) (w : World) (c2 : CellsI w a2 z2) (m2 : z2.length ≤ maxLen) :
    Calls Try.prog 5 #[.int .i64 a0, .int .i64 a1, .slice a2 z2.length cap2] w fun e w' => e = .returned (.bool true) ∧ Below w.heap.size w w' := by
  by_cases h2 : 1048576 < z2.length
  · go_enter Try.func5, Try.ntmps5
    go_wp2
    go_ret
    exact ⟨rfl, Below.refl _ _⟩
  have n2 : z2.length ≤ 1048576 := by omega
  have st := St.init w
  obtain ⟨L, hL⟩ : ∃ L : Int, L = (fewL a0 a1 z2 : Nat) := ⟨_, rfl⟩
  have HL := Lib.hid hL
  have nL : (L != L) = false := bne_self_eq_false _
  clear hL
  obtain ⟨B, hB⟩ : ∃ B : Bool, B = firstB a0 a1 z2 := ⟨_, rfl⟩
  have HB := Lib.hid hB
  have nB : (B != B) = false := bne_self_eq_false _
  clear hB
  go_enter Try.func5, Try.ntmps5
  go_wp2_with fail
  refine (toIntS_any _ _ _ _ (st.old c2) n2).mono ?_
  rintro e W1 ⟨v1, rfl, o, b⟩
  replace st := st.add o b
  obtain ⟨o1, k1, rfl⟩ := o.shape2
  clear o b
  go_wp2_with fail
  have R := sMakeFewest_any a0 a1 _ k1 _ _ (st.cells 0 rfl) (st.len 0 rfl)
  rw [← HL.out, ← HB.out] at R
  refine R.mono ?_
  rintro e W2 ⟨rfl, d⟩
  clear R
  replace st := st.step d
  clear d
  go_wp2_with fail
  refine (toIntS_any _ _ _ _ (st.old c2) n2).mono ?_
  rintro e W3 ⟨v3, rfl, o, b⟩
  replace st := st.add o b
  obtain ⟨o3, k3, rfl⟩ := o.shape2
  clear o b
  go_wp2_with fail
  have R := iMakeFewest_any a0 a1 _ k3 _ _ (st.cells 0 rfl) (st.len 0 rfl)
  rw [← HL.out, ← HB.out] at R
  refine R.mono ?_
  rintro e W4 ⟨rfl, d⟩
  clear R
  replace st := st.step d
  clear d
  go_wp2_with fail
  refine (toIntS_any _ _ _ _ (st.old c2) n2).mono ?_
  rintro e W5 ⟨v5, rfl, o, b⟩
  replace st := st.add o b
  obtain ⟨o5, k5, rfl⟩ := o.shape2
  clear o b
  go_wp2_with fail
  refine (eqIntS_any _ _ _ _ _ _ _ (st.cells 1 rfl) (st.cells 0 rfl) (st.len 1 rfl) (st.len 0 rfl)).mono ?_
  rintro e W6 ⟨rfl, d⟩
  replace st := st.dr d
  clear d
  rw [eqL_true rfl]
  go_wp2_with fail
  go_ret
  exact ⟨rfl, st.below⟩

end Go.Proofs.Ytoabhbdglgmcdaa.fnExactMakeFewest
