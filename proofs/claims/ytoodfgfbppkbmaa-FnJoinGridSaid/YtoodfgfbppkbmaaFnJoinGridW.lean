/- The walk through the law FnJoinGrid: Beams and joined columns tell the same pairs. (P57) -/
import Derived.Test.YtoodfgfbppkbmaaDrawJGridW
import Derived.Test.YtoodfgfbppkbmaaJGridW
import Derived.Test.YtoodfgfbppkbmaaJGridLawL
import Derived.Test.YtoodfgfbppkbmaaSameW
import Derived.Test.YtoodfgfbppkbmaaStS
namespace Go.Proofs.Ytoodfgfbppkbmaa.fnJoinGrid
open Go.RowKit
set_option linter.unusedVariables false

theorem walk (a0 : Option Addr) (cap0 : Nat) (z0 : List Int) (w : World) (c0 : CellsY w a0 z0) (m0 : z0.length ≤ cap0 ∧ cap0 ≤ maxLen) :
    Calls Try.prog 8 #[.slice a0 z0.length cap0] w fun e w' => e = .returned (.bool true) ∧ Below w.heap.size w w' := by
  have m1 : z0.length ≤ maxLen := Nat.le_trans m0.1 m0.2
  by_cases h0 : 1048576 < z0.length
  · unfold maxLen at m1
    clear m0
    go_enter Try.func8, Try.ntmps8
    go_wp2
    go_ret
    exact ⟨rfl, Below.refl _ _⟩
  have l0 : z0.length ≤ 1048576 := by omega
  clear h0
  go_enter Try.func8, Try.ntmps8
  go_wp2_with fail
  refine (DrawJoinGrid_any a0 cap0 z0 w c0 m0.1 m0.2).mono ?_
  rintro e W1 ⟨v1, ss, rfl, l1, l5, sz, st⟩
  obtain ⟨o1, q1, rfl⟩ := st.shapeS 0 rfl
  have lm : ss.length ≤ maxLen := by unfold maxLen; omega
  have szm := sizes_maxH sz
  clear c0 m0 m1 sz
  cases hg : gridB ss
  all_goals
    have HG := Lib.hid hg
    clear hg
    go_wp2_with fail
    have R := iJoinGrid_any o1 q1 ss _ (st.texts 0 rfl) lm szm (SS_cap (st.own _ (List.mem_of_getElem? (i := 0) rfl)))
    rw [HG.out] at R
    refine R.mono ?_
    rintro e W2 ⟨v2, rfl, s2⟩
    clear R
    replace st := st.join s2
    clear s2
    obtain ⟨o2, q2, rfl⟩ := st.shapeI0
    go_wp2_with fail
    have R := sJoinGrid_any o1 q1 ss _ (st.texts 1 rfl) lm szm
    rw [HG.out] at R
    refine R.mono ?_
    rintro e W3 ⟨v3, rfl, s2⟩
    clear R
    replace st := st.join s2
    clear s2
    obtain ⟨o3, q3, rfl⟩ := st.shapeI0
    go_wp2_with fail
    refine (sameInts_any _ _ _ _ _ _ _ (st.cells 1 rfl) (st.cells 0 rfl) (st.len 1 rfl) (st.len 0 rfl)).mono ?_
    rintro e W4 ⟨rfl, d⟩
    replace st := st.dr d
    clear d
    rw [eqL_true rfl]
  · go_wp2_with fail
    refine (sameInts_any _ _ _ _ _ _ _ (st.cells 1 rfl) (st.cells 0 rfl) (st.len 1 rfl) (st.len 0 rfl)).mono ?_
    rintro e W5 ⟨rfl, d⟩
    replace st := st.dr d
    clear d
    rw [eqL_true rfl]
    go_wp2_with fail
    go_ret
    exact ⟨rfl, st.below⟩
  · have HJ := Lib.hid (jg_all HG.out).1
    go_wp2_with fail
    have R := iBeamPairs_any o1 q1 ss _ (st.texts 2 rfl) lm szm
    rw [HG.out, ← HJ.out] at R
    refine R.mono ?_
    rintro e W5 ⟨v5, rfl, s2⟩
    clear R
    replace st := st.join s2
    clear s2
    obtain ⟨o5, q5, rfl⟩ := st.shapeI0
    go_wp2_with fail
    refine (sameInts_any _ _ _ _ _ _ _ (st.cells 0 rfl) (st.cells 2 rfl) (st.len 0 rfl) (st.len 2 rfl)).mono ?_
    rintro e W6 ⟨rfl, d⟩
    replace st := st.dr d
    clear d
    rw [eqL_true rfl]
    go_wp2_with fail
    go_ret
    exact ⟨rfl, st.below⟩

end Go.Proofs.Ytoodfgfbppkbmaa.fnJoinGrid
