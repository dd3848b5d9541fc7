/- The walk through the law FnExactRoundLengths: The program's RoundLengths returns what the reference's returns, for all arguments. -/
import Derived.Test.YtoodfgfbppkbmaaLensSW
import Derived.Test.YtoodfgfbppkbmaaLensIW
import Derived.Test.YtoodfgfbppkbmaaLensLawL
import Derived.Test.YtoodfgfbppkbmaaHelpW
import Derived.Test.YtoodfgfbppkbmaaMarkSW
import Derived.Test.YtoodfgfbppkbmaaStS
namespace Go.Proofs.Ytoodfgfbppkbmaa.fnExactRoundLengths
open Go.RowKit
set_option linter.unusedVariables false

theorem walk (a0 : Option Addr) (cap0 : Nat) (z0 : List ByteArray) (w : World) (c0 : CellsS w a0 z0) (m0 : z0.length ≤ maxLen) (s0 : ∀ s ∈ z0, s.size ≤ maxLen) :
    Calls Try.prog 4 #[.slice a0 z0.length cap0] w fun e w' => e = .returned (.bool true) ∧ Below w.heap.size w w' := by
  have st := St.init w
  obtain ⟨L, hL⟩ : ∃ L : List Int, L = lensS z0 := ⟨_, rfl⟩
  have HL := Lib.hid hL
  have lL : L.length ≤ 1048576 := by rw [hL]; exact lensS_le z0
  clear hL
  obtain ⟨B, hB⟩ : ∃ B : Bool, B = gridB z0 := ⟨_, rfl⟩
  have HB := Lib.hid hB
  have nB : (B != B) = false := bne_self_eq_false _
  clear hB
  go_enter Try.func4, Try.ntmps4
  go_wp2_with fail
  refine (szStringS_any a0 cap0 z0 _ w c0 m0 s0 (by omega) (by omega)).mono ?_
  rintro e w' ⟨r, rfl, rfl, hr⟩
  rcases hr with rfl | ⟨r0, _, n0, _⟩
  · go_wp2
    go_ret
    exact ⟨rfl, Below.refl _ _⟩
  have n0 : z0.length ≤ 1048576 := by omega
  go_wp2_with fail
  refine (toStringS_any a0 cap0 z0 _ (st.oldS c0) n0).mono ?_
  rintro e W1 ⟨v1, rfl, o, b⟩
  replace st := st.addSeg (s := SS _ _) o b
  obtain ⟨o1, k1, rfl⟩ := st.shapeS 0 rfl
  clear o b
  go_wp2_with fail
  have R := sRoundLengths_any o1 k1 z0 _ (st.texts 0 rfl) m0 s0
  rw [← HL.out, ← HB.out] at R
  refine R.mono ?_
  rintro e W2 ⟨v2, rfl, s2⟩
  clear R
  replace st := st.join s2
  obtain ⟨o2, k2, rfl⟩ := st.shapeI 0 rfl
  clear s2
  go_wp2_with fail
  refine (toStringS_any a0 cap0 z0 _ (st.oldS c0) n0).mono ?_
  rintro e W3 ⟨v3, rfl, o, b⟩
  replace st := st.addSeg (s := SS _ _) o b
  obtain ⟨o3, k3, rfl⟩ := st.shapeS 0 rfl
  clear o b
  go_wp2_with fail
  have R := iRoundLengths_any o3 k3 z0 _ (st.texts 0 rfl) m0 s0
  rw [← HL.out, ← HB.out] at R
  refine R.mono ?_
  rintro e W4 ⟨v4, rfl, s2⟩
  clear R
  replace st := st.join s2
  obtain ⟨o4, k4, rfl⟩ := st.shapeI 0 rfl
  clear s2
  go_wp2_with fail
  refine (eqIntS_any _ _ _ _ _ _ _ (st.cells 0 rfl) (st.cells 2 rfl) (st.len 0 rfl) (st.len 2 rfl)).mono ?_
  rintro e W5 ⟨rfl, d⟩
  replace st := st.dr d
  clear d
  rw [eqL_true rfl]
  go_wp2_with fail
  refine (toStringS_any a0 cap0 z0 _ (st.oldS c0) n0).mono ?_
  rintro e W6 ⟨v6, rfl, o, b⟩
  replace st := st.addSeg (s := SS _ _) o b
  obtain ⟨o6, k6, rfl⟩ := st.shapeS 0 rfl
  clear o b
  go_wp2_with fail
  refine (eqStringS_any _ _ _ _ _ _ (st.texts 2 rfl) (st.texts 0 rfl) m0).mono ?_
  rintro e W7 ⟨rfl, d⟩
  replace st := st.dr d
  clear d
  go_wp2_with fail
  refine (markStringS_any _ _ 1 _ _ (st.own _ (List.mem_of_getElem? (i := 2) rfl)) n0 (by omega) (by omega)).mono ?_
  rintro e W8 ⟨rfl, o, g⟩
  replace st := St.writeSeg [_, _] _ (SS _ _) (SS _ (marksS 1 z0.length)) st rfl o g
  clear o g
  go_wp2_with fail
  refine (eqIntS_any _ _ _ _ _ _ _ (st.cells 1 rfl) (st.cells 3 rfl) (st.len 1 rfl) (st.len 3 rfl)).mono ?_
  rintro e W9 ⟨rfl, d⟩
  replace st := st.dr d
  clear d
  rw [eqL_true rfl]
  go_wp2_with fail
  refine (markIntS_any _ _ 1 _ _ (st.get 1 rfl) lL (by omega) (by omega)).mono ?_
  rintro e W10 ⟨rfl, o, g⟩
  replace st := st.write1 o g
  clear o g
  go_wp2_with fail
  refine (heldIntS_any _ _ 1 _ _ (st.cells 1 rfl) lL (by omega) (by omega)).mono ?_
  rintro e W' ⟨rfl, rfl⟩
  go_wp2_with fail
  refine (toStringS_any a0 cap0 z0 _ (st.oldS c0) n0).mono ?_
  rintro e W11 ⟨v11, rfl, o, b⟩
  replace st := st.addSeg (s := SS _ _) o b
  obtain ⟨o11, k11, rfl⟩ := st.shapeS 0 rfl
  clear o b
  go_wp2_with fail
  have R := iRoundLengths_any o11 k11 z0 _ (st.texts 0 rfl) m0 s0
  rw [← HL.out, ← HB.out] at R
  refine R.mono ?_
  rintro e W12 ⟨v12, rfl, s2⟩
  clear R
  replace st := st.join s2
  obtain ⟨o12, k12, rfl⟩ := st.shapeI 0 rfl
  clear s2
  go_wp2_with fail
  refine (eqIntS_any _ _ _ _ _ _ _ (st.cells 0 rfl) (st.cells 5 rfl) (st.len 0 rfl) (st.len 5 rfl)).mono ?_
  rintro e W13 ⟨rfl, d⟩
  replace st := st.dr d
  clear d
  rw [eqL_true rfl]
  go_wp2_with fail
  refine (heldIntS_any _ _ 1 _ _ (st.cells 3 rfl) lL (by omega) (by omega)).mono ?_
  rintro e W' ⟨rfl, rfl⟩
  go_wp2_with fail
  go_ret
  exact ⟨rfl, st.below⟩

end Go.Proofs.Ytoodfgfbppkbmaa.fnExactRoundLengths
