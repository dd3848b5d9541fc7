/- The walk through the law FnExactMakeFirst: The program's MakeFirst returns what the reference's returns, for all arguments. -/
import Derived.Test.YtoabhbdglgmcdaaMakeSW
import Derived.Test.YtoabhbdglgmcdaaHelpW
import Derived.Test.YtoabhbdglgmcdaaStS
import Derived.Test.YtoabhbdglgmcdaaMarkSW
namespace Go.Proofs.Ytoabhbdglgmcdaa.fnExactMakeFirst
open Go.RowKit
set_option linter.unusedVariables false

theorem walk (a0 : Int) (a1 : Int) (a2 : Option Addr) (cap2 : Nat) (z2 : List Int) (w : World) (c2 : CellsI w a2 z2) (m2 : z2.length ≤ maxLen) :
    Calls Try.prog 4 #[.int .i64 a0, .int .i64 a1, .slice a2 z2.length cap2] w fun e w' => e = .returned (.bool true) ∧ Below w.heap.size w w' := by
  by_cases h2 : 1048576 < z2.length
  · go_enter Try.func4, Try.ntmps4
    go_wp2
    go_ret
    exact ⟨rfl, Below.refl _ _⟩
  have n2 : z2.length ≤ 1048576 := by omega
  have st := St.init w
  obtain ⟨L, hL⟩ : ∃ L : List ByteArray, L = firstL a0 a1 z2 := ⟨_, rfl⟩
  obtain ⟨B, hB⟩ : ∃ B : Bool, B = firstB a0 a1 z2 := ⟨_, rfl⟩
  have HL := Lib.hid hL
  have HB := Lib.hid hB
  have lL : L.length ≤ 1048576 := by rw [hL]; exact firstL_le a0 a1 z2
  have bb : (B != B) = false := by cases B <;> rfl
  clear hL hB
  go_enter Try.func4, Try.ntmps4
  go_wp2_with fail
  refine (toIntS_any _ _ _ _ (st.old c2) n2).mono ?_
  rintro e W1 ⟨v1, rfl, o, b⟩
  replace st := st.add o b
  obtain ⟨o1, k1, rfl⟩ := o.shape2
  clear o b
  go_wp2_with fail
  have R := sMakeFirst_any a0 a1 _ k1 _ _ (st.cells 0 rfl) (st.len 0 rfl)
  rw [← HL.out, ← HB.out] at R
  refine R.mono ?_
  rintro e W2 ⟨v2, rfl, s2⟩
  clear R
  replace st := st.join s2
  obtain ⟨o2, k2, rfl⟩ := st.shapeS 0 rfl
  clear s2
  go_wp2_with fail
  refine (toIntS_any _ _ _ _ (st.old c2) n2).mono ?_
  rintro e W3 ⟨v3, rfl, o, b⟩
  replace st := st.add o b
  obtain ⟨o3, k3, rfl⟩ := o.shape2
  clear o b
  go_wp2_with fail
  have R := iMakeFirst_any a0 a1 _ k3 _ _ (st.cells 0 rfl) (st.len 0 rfl)
  rw [← HL.out, ← HB.out] at R
  refine R.mono ?_
  rintro e W4 ⟨v4, rfl, s2⟩
  clear R
  replace st := st.join s2
  obtain ⟨o4, k4, rfl⟩ := st.shapeS 0 rfl
  clear s2
  go_wp2_with fail
  refine (eqStringS_any _ _ _ _ _ _ (st.texts 0 rfl) (st.texts 2 rfl) (Nat.le_trans lL (by decide))).mono ?_
  rintro e W5 ⟨rfl, d⟩
  replace st := st.dr d
  clear d
  go_wp2_with fail
  refine (toIntS_any _ _ _ _ (st.old c2) n2).mono ?_
  rintro e W6 ⟨v6, rfl, o, b⟩
  replace st := st.add o b
  obtain ⟨o6, k6, rfl⟩ := o.shape2
  clear o b
  go_wp2_with fail
  refine (eqIntS_any _ _ _ _ _ _ _ (st.cells 2 rfl) (st.cells 0 rfl) (st.len 2 rfl) (st.len 0 rfl)).mono ?_
  rintro e W7 ⟨rfl, d⟩
  replace st := st.dr d
  clear d
  rw [eqL_true rfl]
  go_wp2_with fail
  refine (markIntS_any _ _ 1 _ _ (st.get 2 rfl) n2 (by omega) (by omega)).mono ?_
  rintro e W8 ⟨rfl, o, g⟩
  replace st := st.write2 o g
  clear o g
  go_wp2_with fail
  refine (eqStringS_any _ _ _ _ _ _ (st.texts 1 rfl) (st.texts 3 rfl) (Nat.le_trans lL (by decide))).mono ?_
  rintro e W9 ⟨rfl, d⟩
  replace st := st.dr d
  clear d
  go_wp2_with fail
  refine (markStringS_any _ _ 1 _ _ (st.own _ (List.mem_of_getElem? (i := 1) rfl)) lL (by omega) (by omega)).mono ?_
  rintro e W10 ⟨rfl, o, g⟩
  replace st := St.writeSeg [_] _ (SS _ _) (SS _ (marksS 1 L.length)) st rfl o g
  clear o g
  go_wp2_with fail
  refine (heldStringS_any _ _ 1 _ _ (st.texts 1 rfl) lL (by omega) (by omega)).mono ?_
  rintro e W11 ⟨rfl, b⟩
  replace st := st.step b
  clear b
  go_wp2_with fail
  refine (toIntS_any _ _ _ _ (st.old c2) n2).mono ?_
  rintro e W12 ⟨v12, rfl, o, b⟩
  replace st := st.add o b
  obtain ⟨o12, k12, rfl⟩ := o.shape2
  clear o b
  go_wp2_with fail
  have R := iMakeFirst_any a0 a1 _ k12 _ _ (st.cells 0 rfl) (st.len 0 rfl)
  rw [← HL.out, ← HB.out] at R
  refine R.mono ?_
  rintro e W13 ⟨v13, rfl, s2⟩
  clear R
  replace st := st.join s2
  obtain ⟨o13, k13, rfl⟩ := st.shapeS 0 rfl
  clear s2
  go_wp2_with fail
  refine (eqStringS_any _ _ _ _ _ _ (st.texts 0 rfl) (st.texts 5 rfl) (Nat.le_trans lL (by decide))).mono ?_
  rintro e W14 ⟨rfl, d⟩
  replace st := st.dr d
  clear d
  go_wp2_with fail
  refine (heldStringS_any _ _ 1 _ _ (st.texts 3 rfl) lL (by omega) (by omega)).mono ?_
  rintro e W15 ⟨rfl, b⟩
  replace st := st.step b
  clear b
  go_wp2_with fail
  go_ret
  exact ⟨rfl, st.below⟩

end Go.Proofs.Ytoabhbdglgmcdaa.fnExactMakeFirst
