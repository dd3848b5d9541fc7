/- The walk through the law FnJoinMany: Ways and joined columns tell the same rounds. (P58) -/
import Derived.Test.YtoodfgfbppkbmaaDrawJGridW
import Derived.Test.YtoodfgfbppkbmaaJGridW
import Derived.Test.YtoodfgfbppkbmaaJGridLawL
import Derived.Test.YtoodfgfbppkbmaaStS
namespace Go.Proofs.Ytoodfgfbppkbmaa.fnJoinMany
open Go.RowKit
set_option linter.unusedVariables false

theorem walk (a0 : Option Addr) (cap0 : Nat) (z0 : List Int) (w : World) (c0 : CellsY w a0 z0) (m0 : z0.length ≤ cap0 ∧ cap0 ≤ maxLen) :
    Calls Try.prog 7 #[.slice a0 z0.length cap0] w fun e w' => e = .returned (.bool true) ∧ Below w.heap.size w w' := by
  have m1 : z0.length ≤ maxLen := Nat.le_trans m0.1 m0.2
  by_cases h0 : 1048576 < z0.length
  · unfold maxLen at m1
    clear m0
    go_enter Try.func7, Try.ntmps7
    go_wp2
    go_ret
    exact ⟨rfl, Below.refl _ _⟩
  have l0 : z0.length ≤ 1048576 := by omega
  clear h0
  go_enter Try.func7, Try.ntmps7
  go_wp2_with fail
  refine (DrawJoinMany_any a0 cap0 z0 w c0 m0.1 m0.2).mono ?_
  rintro e W1 ⟨v1, ss, rfl, l1, l5, sz, st⟩
  obtain ⟨o1, q1, rfl⟩ := st.shapeS 0 rfl
  have lm : ss.length ≤ maxLen := by unfold maxLen; omega
  have szm := sizes_maxH sz
  clear c0 m0 m1 sz
  cases hg : gridB ss
  all_goals
    have HG := Lib.hid hg
    clear hg
    obtain ⟨L, hL⟩ : ∃ L, L = jgM ss := ⟨_, rfl⟩
    have HL := Lib.hid hL
    have nL : (L != L) = false := bne_self_eq_false _
    have eL : (L == L) = true := beq_self_eq_true _
    clear hL
    go_wp2_with fail
    have R := iJoinMany_any o1 q1 ss _ (st.texts 0 rfl) lm szm (SS_cap (st.own _ (List.mem_of_getElem? (i := 0) rfl)))
    rw [← HL.out, HG.out] at R
    refine R.mono ?_
    rintro e W2 ⟨rfl, d⟩
    clear R
    replace st := st.step d
    clear d
    go_wp2_with fail
    have R := sJoinMany_any o1 q1 ss _ (st.texts 0 rfl) lm szm
    rw [← HL.out, HG.out] at R
    refine R.mono ?_
    rintro e W3 ⟨rfl, d⟩
    clear R
    replace st := st.step d
    clear d
  · go_wp2_with fail
    go_ret
    exact ⟨rfl, st.below⟩
  · have HJ : Hid (rmanyL ss = L) := by show rmanyL ss = L; rw [HL.out, (jg_all HG.out).2]; unfold rmanyL; rw [if_pos HG.out]
    go_wp2_with fail
    have R := iRoundMany_any o1 q1 ss _ (st.texts 0 rfl) lm szm
    rw [HJ.out, HG.out] at R
    refine R.mono ?_
    rintro e W4 ⟨rfl, d⟩
    clear R
    replace st := st.step d
    clear d
    go_wp2_with fail
    go_ret
    exact ⟨rfl, st.below⟩

end Go.Proofs.Ytoodfgfbppkbmaa.fnJoinMany
