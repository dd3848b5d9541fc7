/- The walk through the law FnExactJoinPairs: The program's JoinPairs returns what the reference's returns, for all arguments. -/
import Derived.Test.YtfpcfolcdpdomaaJJoinW
import Derived.Test.YtfpcfolcdpdomaaHelpW
import Derived.Test.YtfpcfolcdpdomaaStS
namespace Go.Proofs.Ytfpcfolcdpdomaa.fnExactJoinPairs
open Go.RowKit
set_option linter.unusedVariables false

theorem walk (a0 : Int) (a1 : Int) (a2 : Option Addr) (cap2 : Nat) (z2 : List Int) (a3 : Int) (a4 : Option Addr) (cap4 : Nat) (z4 : List Int) (w : World) (c2 : CellsI w a2 z2) (m2 : z2.length ≤ maxLen) (c4 : CellsI w a4 z4) (m4 : z4.length ≤ maxLen) :
    Calls Try.prog 4 #[.int .i64 a0, .int .i64 a1, .slice a2 z2.length cap2, .int .i64 a3, .slice a4 z4.length cap4] w fun e w' => e = .returned (.bool true) ∧ Below w.heap.size w w' := by
  have h0 : 0 < 1 := by omega
  by_cases h2 : 1048576 < z2.length
  · go_enter Try.func4, Try.ntmps4
    go_wp2
    go_ret
    exact ⟨rfl, Below.refl _ _⟩
  by_cases h4 : 1048576 < z4.length
  · go_enter Try.func4, Try.ntmps4
    go_wp2
    go_ret
    exact ⟨rfl, Below.refl _ _⟩
  have n2 : z2.length ≤ 1048576 := by omega
  have n4 : z4.length ≤ 1048576 := by omega
  have st := St.init w
  obtain ⟨L, hL⟩ : ∃ L, L = jpairL a0 a1 z2 a3 z4 := ⟨_, rfl⟩
  obtain ⟨B, hB⟩ : ∃ B, B = twoB a0 a1 z2 a3 z4 := ⟨_, rfl⟩
  have HL := Lib.hid hL
  have HB := Lib.hid hB
  have lL : L.length ≤ 1048576 := by rw [hL]; exact jpairL_le a0 a1 z2 a3 z4
  have bb : (B != B) = false := by cases B <;> rfl
  clear hL hB
  go_enter Try.func4, Try.ntmps4
  go_wp2_with fail
  refine (toIntS_any _ _ _ _ (st.old c2) n2).mono ?_
  rintro e W1 ⟨v1, rfl, o, b⟩
  replace st := st.add o b
  obtain ⟨o1, k1, rfl⟩ := o.shape2
  clear o b
  go_wp2_with fail
  refine (toIntS_any _ _ _ _ (st.old c4) n4).mono ?_
  rintro e W2 ⟨v2, rfl, o, b⟩
  replace st := st.add o b
  obtain ⟨o2, k2, rfl⟩ := o.shape2
  clear o b
  go_wp2_with fail
  have R := sJoinPairs_any a0 a1 _ k1 _ a3 _ k2 _ _ (st.cells 1 rfl) (st.len 1 rfl) (st.cells 0 rfl) (st.len 0 rfl)
  rw [← HL.out, ← HB.out] at R
  refine R.mono ?_
  rintro e W3 ⟨v3, rfl, o, b⟩
  clear R
  replace st := st.add o b
  obtain ⟨o3, k3, rfl⟩ := o.shape2
  clear o b
  go_wp2_with fail
  refine (toIntS_any _ _ _ _ (st.old c2) n2).mono ?_
  rintro e W4 ⟨v4, rfl, o, b⟩
  replace st := st.add o b
  obtain ⟨o4, k4, rfl⟩ := o.shape2
  clear o b
  go_wp2_with fail
  refine (toIntS_any _ _ _ _ (st.old c4) n4).mono ?_
  rintro e W5 ⟨v5, rfl, o, b⟩
  replace st := st.add o b
  obtain ⟨o5, k5, rfl⟩ := o.shape2
  clear o b
  go_wp2_with fail
  have R := iJoinPairs_any a0 a1 _ k4 _ a3 _ k5 _ _ (st.cells 1 rfl) (st.len 1 rfl) (st.cells 0 rfl) (st.len 0 rfl)
  rw [← HL.out, ← HB.out] at R
  refine R.mono ?_
  rintro e W6 ⟨v6, rfl, o, b⟩
  clear R
  replace st := st.add o b
  obtain ⟨o6, k6, rfl⟩ := o.shape2
  clear o b
  go_wp2_with fail
  refine (eqIntS_any _ _ _ _ _ _ _ (st.cells 0 rfl) (st.cells 3 rfl) (st.len 0 rfl) (st.len 3 rfl)).mono ?_
  rintro e W7 ⟨rfl, d⟩
  replace st := st.dr d
  clear d
  rw [eqL_true rfl]
  go_wp2_with fail
  refine (toIntS_any _ _ _ _ (st.old c2) n2).mono ?_
  rintro e W8 ⟨v8, rfl, o, b⟩
  replace st := st.add o b
  obtain ⟨o8, k8, rfl⟩ := o.shape2
  clear o b
  go_wp2_with fail
  refine (eqIntS_any _ _ _ _ _ _ _ (st.cells 3 rfl) (st.cells 0 rfl) (st.len 3 rfl) (st.len 0 rfl)).mono ?_
  rintro e W9 ⟨rfl, d⟩
  replace st := st.dr d
  clear d
  rw [eqL_true rfl]
  go_wp2_with fail
  refine (toIntS_any _ _ _ _ (st.old c4) n4).mono ?_
  rintro e W10 ⟨v10, rfl, o, b⟩
  replace st := st.add o b
  obtain ⟨o10, k10, rfl⟩ := o.shape2
  clear o b
  go_wp2_with fail
  refine (eqIntS_any _ _ _ _ _ _ _ (st.cells 3 rfl) (st.cells 0 rfl) (st.len 3 rfl) (st.len 0 rfl)).mono ?_
  rintro e W11 ⟨rfl, d⟩
  replace st := st.dr d
  clear d
  rw [eqL_true rfl]
  go_wp2_with fail
  refine (markIntS_any _ _ 1 _ _ (st.get 4 rfl) n2 (by omega) (by omega)).mono ?_
  rintro e W12 ⟨rfl, o, g⟩
  replace st := st.write4 o g
  clear o g
  go_wp2_with fail
  refine (markIntS_any _ _ _ _ _ (st.get 3 rfl) n4 (by omega) (by omega)).mono ?_
  rintro e W13 ⟨rfl, o, g⟩
  replace st := st.write3 o g
  clear o g
  go_wp2_with fail
  refine (eqIntS_any _ _ _ _ _ _ _ (st.cells 2 rfl) (st.cells 5 rfl) (st.len 2 rfl) (st.len 5 rfl)).mono ?_
  rintro e W14 ⟨rfl, d⟩
  replace st := st.dr d
  clear d
  rw [eqL_true rfl]
  go_wp2_with fail
  refine (markIntS_any _ _ 1 _ _ (st.get 2 rfl) lL (by omega) (by omega)).mono ?_
  rintro e W15 ⟨rfl, o, g⟩
  replace st := st.write2 o g
  clear o g
  go_wp2_with fail
  refine (heldIntS_any _ _ 1 _ _ (st.cells 2 rfl) lL (by omega) (by omega)).mono ?_
  rintro e W' ⟨rfl, rfl⟩
  go_wp2_with fail
  refine (toIntS_any _ _ _ _ (st.old c2) n2).mono ?_
  rintro e W16 ⟨v16, rfl, o, b⟩
  replace st := st.add o b
  obtain ⟨o16, k16, rfl⟩ := o.shape2
  clear o b
  go_wp2_with fail
  refine (toIntS_any _ _ _ _ (st.old c4) n4).mono ?_
  rintro e W17 ⟨v17, rfl, o, b⟩
  replace st := st.add o b
  obtain ⟨o17, k17, rfl⟩ := o.shape2
  clear o b
  go_wp2_with fail
  have R := iJoinPairs_any a0 a1 _ k16 _ a3 _ k17 _ _ (st.cells 1 rfl) (st.len 1 rfl) (st.cells 0 rfl) (st.len 0 rfl)
  rw [← HL.out, ← HB.out] at R
  refine R.mono ?_
  rintro e W18 ⟨v18, rfl, o, b⟩
  clear R
  replace st := st.add o b
  obtain ⟨o18, k18, rfl⟩ := o.shape2
  clear o b
  go_wp2_with fail
  refine (eqIntS_any _ _ _ _ _ _ _ (st.cells 0 rfl) (st.cells 8 rfl) (st.len 0 rfl) (st.len 8 rfl)).mono ?_
  rintro e W19 ⟨rfl, d⟩
  replace st := st.dr d
  clear d
  rw [eqL_true rfl]
  go_wp2_with fail
  refine (heldIntS_any _ _ 1 _ _ (st.cells 5 rfl) lL (by omega) (by omega)).mono ?_
  rintro e W' ⟨rfl, rfl⟩
  go_wp2_with fail
  go_ret
  exact ⟨rfl, st.below⟩

end Go.Proofs.Ytfpcfolcdpdomaa.fnExactJoinPairs
