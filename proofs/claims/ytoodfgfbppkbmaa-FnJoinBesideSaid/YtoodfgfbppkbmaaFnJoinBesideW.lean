/- The walk through the law FnJoinBeside: Grids beside each other have joined pairings and rounds. (P53) -/
import Derived.Test.YtoodfgfbppkbmaaBesideLawL
import Derived.Test.YtoodfgfbppkbmaaSameTW
import Derived.Test.YtoodfgfbppkbmaaSameW
import Derived.Test.YtoodfgfbppkbmaaStS
namespace Go.Proofs.Ytoodfgfbppkbmaa.fnJoinBeside
open Go.RowKit
set_option linter.unusedVariables false

theorem walk (a0 : Option Addr) (cap0 : Nat) (z0 : List Int) (w : World) (c0 : CellsY w a0 z0) (m0 : z0.length ≤ cap0 ∧ cap0 ≤ maxLen) :
    Calls Try.prog 9 #[.slice a0 z0.length cap0] w fun e w' => e = .returned (.bool true) ∧ Below w.heap.size w w' := by
  have m1 : z0.length ≤ maxLen := Nat.le_trans m0.1 m0.2
  by_cases h0 : 1048576 < z0.length
  · unfold maxLen at m1
    clear m0
    go_enter Try.func9, Try.ntmps9
    go_wp2
    go_ret
    exact ⟨rfl, Below.refl _ _⟩
  have l0 : z0.length ≤ 1048576 := by omega
  clear h0
  go_enter Try.func9, Try.ntmps9
  go_wp2_with fail
  refine (DrawGridBeside_any a0 cap0 z0 w c0 m0.1 m0.2).mono ?_
  rintro e W1 ⟨v1, g, v2, h, rfl, hg, hh, st⟩
  obtain ⟨o1, q1, rfl⟩ := st.shapeS 1 rfl
  obtain ⟨o2, q2, rfl⟩ := st.shapeS 0 rfl
  have n1g : 1 ≤ g.length := (gr_ok hg).n1
  have n1h : 1 ≤ h.length := (gr_ok hh).n1
  have n5g : g.length ≤ 5 := (gr_ok hg).n5
  have n5h : h.length ≤ 5 := (gr_ok hh).n5
  have lmg : g.length ≤ maxLen := by unfold maxLen; omega
  have lmh : h.length ≤ maxLen := by unfold maxLen; omega
  have SZG : Hid (∀ s ∈ g, s.size ≤ maxLen) := fun s hs => by have := (grid_sizes hg).1 s hs; unfold maxLen; omega
  have SZH : Hid (∀ s ∈ h, s.size ≤ maxLen) := fun s hs => by have := (grid_sizes hh).1 s hs; unfold maxLen; omega
  have HG := Lib.hid hg
  have HH := Lib.hid hh
  have lmO : (besideL g h).length ≤ maxLen := by
    unfold besideL
    split
    · rw [besS_len]; exact lmg
    · exact Nat.zero_le _
  have LMO := Lib.hid lmO
  clear c0 m0 m1 hg hh lmO
  cases hB : besideB g h
  all_goals
    have HB := Lib.hid hB
    clear hB
    go_wp2_with fail
    have R := iGridBeside_any _ q1 g _ q2 h _ (st.texts 1 rfl) (st.texts 0 rfl) HG.out HH.out
    rw [HB.out] at R
    refine R.mono ?_
    rintro e W3 ⟨v3, rfl, s2⟩
    clear R
    replace st := st.join s2
    clear s2
    obtain ⟨o3, q3, rfl⟩ := st.shapeS 0 rfl
    go_wp2_with fail
    have R := sGridBeside_any _ q1 g _ q2 h _ (st.texts 2 rfl) (st.texts 1 rfl) HG.out HH.out
    rw [HB.out] at R
    refine R.mono ?_
    rintro e W4 ⟨v4, rfl, s2⟩
    clear R
    replace st := st.join s2
    clear s2
    obtain ⟨o4, q4, rfl⟩ := st.shapeS 0 rfl
    go_wp2_with fail
    refine (sameTexts_any _ _ _ _ _ _ (st.texts 1 rfl) (st.texts 0 rfl) LMO.out).mono ?_
    rintro e W5 ⟨rfl, d⟩
    replace st := st.dr d
    clear d
  · go_wp2_with fail
    refine (sameTexts_any _ _ _ _ _ _ (st.texts 1 rfl) (st.texts 0 rfl) LMO.out).mono ?_
    rintro e W6 ⟨rfl, d⟩
    replace st := st.dr d
    clear d
    go_wp2_with fail
    go_ret
    exact ⟨rfl, st.below⟩
  · have hl := bes_law HB.out
    have hO : besideL g h = besS g h := by unfold besideL; rw [if_pos HB.out]
    rw [← hO] at hl
    obtain ⟨X, hX⟩ : ∃ X, X = rmanyL g := ⟨_, rfl⟩
    obtain ⟨Y, hY⟩ : ∃ Y, Y = rmanyL h := ⟨_, rfl⟩
    obtain ⟨M, hM⟩ : ∃ M, M = jroundL g.length (rowOf g 0).size (beamsB g) (rowOf h 0).size (beamsB h) := ⟨_, rfl⟩
    rw [← hX, ← hY, ← hM] at hl
    have SZO : Hid (∀ s ∈ besideL g h, s.size ≤ maxLen) := by
      show ∀ s ∈ besideL g h, s.size ≤ maxLen
      rw [hO]
      exact besS_sizes (grid_sizes HG.out).1 (grid_sizes HH.out).1
    have HGO := Lib.hid hl.1
    have HT := Lib.hid hl.2.1
    have HBE := Lib.hid hl.2.2.1
    have HZ := Lib.hid hl.2.2.2.1
    have hz9 := hl.2.2.2.2
    rw [HZ.out] at hz9
    obtain ⟨⟨x0, x1⟩, ⟨y0, y1⟩, z0', z1⟩ := hz9
    have HX := Lib.hid hX
    have HY := Lib.hid hY
    have HM := Lib.hid hM
    have eq9 : (X + Y + M == X + Y + M) = true := beq_self_eq_true _
    clear hl hO hX hY hM
    generalize besideL g h = O at *
    obtain ⟨b1, f1, he1, hc1⟩ := st.textAt 3 rfl (j := 0) (by omega)
    obtain ⟨b2, f2, he2, hc2⟩ := st.textAt 2 rfl (j := 0) (by omega)
    subst he1 he2
    rw [Nat.add_zero] at hc1 hc2
    go_wp2_with fail
    have R := iBeamPairs_any _ q1 g _ (st.texts 3 rfl) lmg SZG.out
    rw [HG.out] at R
    refine R.mono ?_
    rintro e W7 ⟨v7, rfl, s2⟩
    clear R
    replace st := st.join s2
    clear s2
    obtain ⟨o7, q7, rfl⟩ := st.shapeI0
    clear hc1 hc2
    go_wp2_with fail
    have R := iBeamPairs_any _ q2 h _ (st.texts 3 rfl) lmh SZH.out
    rw [HH.out] at R
    refine R.mono ?_
    rintro e W8 ⟨v8, rfl, s2⟩
    clear R
    replace st := st.join s2
    clear s2
    obtain ⟨o8, q8, rfl⟩ := st.shapeI0
    go_wp2_with fail
    have R := iBeamPairs_any o3 q3 O _ (st.texts 3 rfl) LMO.out SZO.out
    rw [HGO.out, HBE.out] at R
    refine R.mono ?_
    rintro e W9 ⟨v9, rfl, s2⟩
    clear R
    replace st := st.join s2
    clear s2
    obtain ⟨o9, q9, rfl⟩ := st.shapeI0
    go_wp2_with fail
    have R := iJoinPairs_any g.length (rowOf g 0).size _ q7 _ (rowOf h 0).size _ q8 _ _ (st.cells 2 rfl) (st.len 2 rfl) (st.cells 1 rfl) (st.len 1 rfl)
    rw [HT.out] at R
    refine R.mono ?_
    rintro e W10 ⟨v10, rfl, o, b⟩
    clear R
    replace st := st.add o b
    obtain ⟨o10, q10, rfl⟩ := o.shape2
    clear o b
    go_wp2_with fail
    have R := iRoundMany_any _ q1 g _ (st.texts 7 rfl) lmg SZG.out
    rw [HG.out, ← HX.out] at R
    refine R.mono ?_
    rintro e W11 ⟨rfl, d⟩
    clear R
    replace st := st.step d
    clear d
    go_wp2_with fail
    have R := iRoundMany_any _ q2 h _ (st.texts 6 rfl) lmh SZH.out
    rw [HH.out, ← HY.out] at R
    refine R.mono ?_
    rintro e W12 ⟨rfl, d⟩
    clear R
    replace st := st.step d
    clear d
    go_wp2_with fail
    have R := iRoundMany_any o3 q3 O _ (st.texts 5 rfl) LMO.out SZO.out
    rw [HGO.out, HZ.out] at R
    refine R.mono ?_
    rintro e W13 ⟨rfl, d⟩
    clear R
    replace st := st.step d
    clear d
    go_wp2_with fail
    have R := iJoinRounds_any g.length (rowOf g 0).size _ q7 _ (rowOf h 0).size _ q8 _ _ (st.cells 3 rfl) (st.len 3 rfl) (st.cells 2 rfl) (st.len 2 rfl)
    rw [HT.out, ← HM.out] at R
    refine R.mono ?_
    rintro e W14 ⟨rfl, d⟩
    clear R
    replace st := st.step d
    clear d
    go_wp2_with fail
    refine (sameInts_any _ _ _ _ _ _ _ (st.cells 1 rfl) (st.cells 0 rfl) (st.len 1 rfl) (st.len 0 rfl)).mono ?_
    rintro e W15 ⟨rfl, d⟩
    replace st := st.dr d
    clear d
    rw [eqL_true rfl]
    go_wp2_with fail
    go_ret
    exact ⟨rfl, st.below⟩

end Go.Proofs.Ytoodfgfbppkbmaa.fnJoinBeside
