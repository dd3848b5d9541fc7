/- The walk through the law FnMakeTurn: Turned pairings need as many mirrors. (P70) -/
import Derived.Test.YtoabhbdglgmcdaaDrawMakeW
import Derived.Test.YtoabhbdglgmcdaaMadeLawL
import Derived.Test.YtoabhbdglgmcdaaMakeSW
import Derived.Test.YtoabhbdglgmcdaaFlipW
import Derived.Test.YtoabhbdglgmcdaaStS
namespace Go.Proofs.Ytoabhbdglgmcdaa.fnMakeTurn
open Go.RowKit
set_option linter.unusedVariables false

theorem walk (a0 : Option Addr) (cap0 : Nat) (z0 : List Int) (w : World) (c0 : CellsY w a0 z0) (m0 : z0.length ≤ cap0 ∧ cap0 ≤ maxLen) :
    Calls Try.prog 8 #[.slice a0 z0.length cap0] w fun e w' => e = .returned (.bool true) ∧ Below w.heap.size w w' := by
  have m1 : z0.length ≤ maxLen := Nat.le_trans m0.1 m0.2
  by_cases h0 : 1048576 < z0.length
  · unfold maxLen at m1
    clear m0
    go_enter Try.func8, Try.ntmps8
    go_wp2
    go_ret
    exact ⟨rfl, Below.refl _ _⟩
  have l0 : z0.length ≤ 1048576 := by omega
  clear h0
  have st := St.init w
  go_enter Try.func8, Try.ntmps8
  go_wp2_with fail
  refine (DrawMakeFewest_any a0 cap0 z0 w c0 m0.1 m0.2).mono ?_
  rintro e W1 ⟨v1, xs, n, m, rfl, n0, n1, mm0, mm1, lx, o, b⟩
  replace st := st.add o b
  obtain ⟨o1, q1, rfl⟩ := o.shape2
  clear o b c0 m0 m1
  cases hB : firstB n m xs
  all_goals
    have HB := Lib.hid hB
    clear hB
    obtain ⟨X, hX⟩ : ∃ X, X = fewL n m xs := ⟨_, rfl⟩
    have HX := Lib.hid hX
    clear hX
    have neX : ((X : Int) != X) = false := bne_self_eq_false _
    have eqX : ((X : Int) == X) = true := beq_self_eq_true _
    go_wp2_with fail
    have R := iMakeFewest_any n m _ q1 _ _ (st.cells 0 rfl) (st.len 0 rfl)
    rw [HB.out, ← HX.out] at R
    refine R.mono ?_
    rintro e W2 ⟨rfl, d⟩
    clear R
    replace st := st.step d
    clear d
    go_wp2_with fail
    have R := sMakeFewest_any n m _ q1 _ _ (st.cells 0 rfl) (st.len 0 rfl)
    rw [HB.out, ← HX.out] at R
    refine R.mono ?_
    rintro e W3 ⟨rfl, d⟩
    clear R
    replace st := st.step d
    clear d
  · go_wp2_with fail
    go_ret
    exact ⟨rfl, st.below⟩
  · have hT := made_turnR (firstB_given HB.out)
    have HOF := Lib.hid hT.1
    have HGT := Lib.hid hT.2.2.2.2.1
    have HLT := Lib.hid hT.2.2.2.2.2
    clear hT
    go_wp2_with fail
    have R := iJoinTurn_any n m _ q1 _ _ (st.cells 0 rfl) (st.len 0 rfl)
    rw [HOF.out] at R
    refine R.mono ?_
    rintro e W4 ⟨v4, rfl, o, b⟩
    clear R
    replace st := st.add o b
    obtain ⟨o4, q4, rfl⟩ := o.shape2
    clear o b
    go_wp2_with fail
    have R := iMakeFewest_any m n _ q4 _ _ (st.cells 0 rfl) (st.len 0 rfl)
    rw [HGT.out, HB.out, HLT.out, ← HX.out] at R
    refine R.mono ?_
    rintro e W5 ⟨rfl, d⟩
    clear R
    replace st := st.step d
    clear d
    go_wp2_with fail
    go_ret
    exact ⟨rfl, st.below⟩

end Go.Proofs.Ytoabhbdglgmcdaa.fnMakeTurn
