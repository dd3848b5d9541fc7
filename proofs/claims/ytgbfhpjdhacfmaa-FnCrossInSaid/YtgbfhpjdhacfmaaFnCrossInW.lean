/- The walk through the law FnCrossIn: Pairings turned are pairings. (P44) -/
import Derived.Test.YtgbfhpjdhacfmaaDrawChordsW
import Derived.Test.YtgbfhpjdhacfmaaTurnW
import Derived.Test.YtgbfhpjdhacfmaaRen
namespace Go.Proofs.Ytgbfhpjdhacfmaa.fnCrossIn
open Go.RowKit
set_option linter.unusedVariables false

theorem walk (a0 : Option Addr) (cap0 : Nat) (z0 : List Int) (w : World) (c0 : CellsY w a0 z0) (m0 : z0.length ≤ cap0 ∧ cap0 ≤ maxLen) :
    Calls Try.prog 5 #[.slice a0 z0.length cap0] w fun e w' => e = .returned (.bool true) ∧ Below w.heap.size w w' := by
  have m1 : z0.length ≤ maxLen := Nat.le_trans m0.1 m0.2
  by_cases h0 : 1048576 < z0.length
  · unfold maxLen at m1
    clear m0
    go_enter Try.func5, Try.ntmps5
    go_wp2
    go_ret
    exact ⟨rfl, Below.refl _ _⟩
  have l0 : z0.length ≤ 1048576 := by omega
  clear h0
  go_enter Try.func5, Try.ntmps5
  go_wp2_with fail
  refine (DrawCrossIn_any a0 cap0 z0 w c0 m0.1 m0.2).mono ?_
  rintro e W1 ⟨v1, xs, rfl, lx, st⟩
  obtain ⟨o1, q1, rfl⟩ := st.shapeI0
  clear c0 m0 m1
  cases hp : pairsB xs
  all_goals
    have HP := Lib.hid hp
    clear hp
    go_wp2_with fail
    have R := iCrossIn_any o1 q1 xs _ (st.cells 0 rfl) (st.len 0 rfl)
    rw [HP.out] at R
    refine R.mono ?_
    rintro e w' ⟨rfl, rfl⟩
    clear R
    go_wp2_with fail
    have R := sCrossIn_any o1 q1 xs _ (st.cells 0 rfl) (st.len 0 rfl)
    rw [HP.out] at R
    refine R.mono ?_
    rintro e w' ⟨rfl, rfl⟩
    clear R
  · go_wp2_with fail
    go_ret
    exact ⟨rfl, st.below⟩
  · have hT : turnB xs 1 = true := by simp only [turnB, HP.out, Bool.true_and]; rfl
    have HQ := Lib.hid (turnL_pairs hT).1
    have HT := Lib.hid hT
    clear hT
    go_wp2_with fail
    have R := iCrossTurn_any o1 q1 xs 1 _ (st.cells 0 rfl) (st.len 0 rfl)
    rw [HT.out] at R
    refine R.mono ?_
    rintro e W2 ⟨v2, rfl, o, b⟩
    clear R
    replace st := st.add o b
    obtain ⟨o2, q2, rfl⟩ := o.shape2
    clear o b
    go_wp2_with fail
    have R := iCrossIn_any o2 q2 _ _ (st.cells 0 rfl) (st.len 0 rfl)
    rw [HQ.out] at R
    refine R.mono ?_
    rintro e w' ⟨rfl, rfl⟩
    clear R
    go_wp2_with fail
    go_ret
    exact ⟨rfl, st.below⟩

end Go.Proofs.Ytgbfhpjdhacfmaa.fnCrossIn
