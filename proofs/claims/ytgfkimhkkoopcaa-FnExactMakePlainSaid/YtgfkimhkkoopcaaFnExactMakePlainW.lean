/- The walk through the law FnExactMakePlain: The program's MakePlain returns what the reference's returns, for all arguments. -/
import Derived.Test.YtgfkimhkkoopcaaPlainW
import Derived.Test.YtgfkimhkkoopcaaHelpW
import Derived.Test.YtgfkimhkkoopcaaState
namespace Go.Proofs.Ytgfkimhkkoopcaa.fnExactMakePlain
open Go.RowKit
set_option linter.unusedVariables false

theorem walk (a0 : Int) (w : World) :
    Calls Try.prog 3 #[.int .i64 a0] w fun e w' => e = .returned (.bool true) ∧ Below w.heap.size w w' := by
  have st := St.init w
  obtain ⟨L, hL⟩ : ∃ L : Int, L = plainL a0 := ⟨_, rfl⟩
  have HL := Lib.hid hL
  have nL : (L != L) = false := bne_self_eq_false _
  clear hL
  obtain ⟨B, hB⟩ : ∃ B : Bool, B = plainB a0 := ⟨_, rfl⟩
  have HB := Lib.hid hB
  have nB : (B != B) = false := bne_self_eq_false _
  clear hB
  go_enter Try.func3, Try.ntmps3
  go_wp2_with fail
  have R := sMakePlain_any a0 w
  rw [← HL.out, ← HB.out] at R
  refine R.mono ?_
  rintro e W' ⟨rfl, rfl⟩
  clear R
  go_wp2_with fail
  have R := iMakePlain_any a0 w
  rw [← HL.out, ← HB.out] at R
  refine R.mono ?_
  rintro e W' ⟨rfl, rfl⟩
  clear R
  go_wp2_with fail
  go_ret
  exact ⟨rfl, st.below⟩

end Go.Proofs.Ytgfkimhkkoopcaa.fnExactMakePlain
