/- The walk through the law FnThree: Three letters make paths as many, or one more once. (P37) -/
import Derived.Test.YtcacbkcckfgkjaaDrawCellW
import Derived.Test.YtcacbkcckfgkjaaChangeL
import Derived.Test.YtcacbkcckfgkjaaChange2W
import Derived.Test.YtcacbkcckfgkjaaStS
import Derived.Test.YtcacbkcckfgkjaaSameW
import Derived.Test.YtcacbkcckfgkjaaTotalW
namespace Go.Proofs.Ytcacbkcckfgkjaa.fnThree
open Go.RowKit
set_option linter.unusedVariables false

theorem walk (a0 : Option Addr) (cap0 : Nat) (z0 : List Int) (w : World) (c0 : CellsY w a0 z0) (m0 : z0.length ≤ cap0 ∧ cap0 ≤ maxLen) :
    Calls Try.prog 8 #[.slice a0 z0.length cap0] w fun e w' => e = .returned (.bool true) ∧ Below w.heap.size w w' := by
  have m1 : z0.length ≤ maxLen := Nat.le_trans m0.1 m0.2
  by_cases h0 : 1048576 < z0.length
  · unfold maxLen at m1
    clear m0
    go_enter Try.func8, Try.ntmps8
    go_wp2
    go_ret
    exact ⟨rfl, Below.refl _ _⟩
  have l0 : z0.length ≤ 1048576 := by omega
  clear h0
  go_enter Try.func8, Try.ntmps8
  go_wp2_with fail
  refine (DrawChangePaths_any a0 cap0 z0 w c0 m0.1 m0.2).mono ?_
  rintro e W1 ⟨v1, ss, c, rfl, l1, l4, sz, st⟩
  obtain ⟨o1, q1, rfl⟩ := st.shapeS 0 rfl
  have lm : ss.length ≤ maxLen := by unfold maxLen; omega
  have szm := sizes_max sz
  clear c0 m0 m1 sz
  cases hb : cellB ss c
  all_goals
    have HB := Lib.hid hb
    clear hb
    go_wp2_with fail
    have R := iChangePaths_any o1 q1 ss c _ (st.texts 0 rfl) lm szm
    rw [HB.out] at R
    refine R.mono ?_
    rintro e W2 ⟨v2, rfl, s2⟩
    clear R
    replace st := st.join s2
    clear s2
    obtain ⟨o2, q2, rfl⟩ := st.shapeI0
    go_wp2_with fail
    have R := sChangePaths_any o1 q1 ss c _ (st.texts 1 rfl) lm szm
    rw [HB.out] at R
    refine R.mono ?_
    rintro e W3 ⟨v3, rfl, s3⟩
    clear R
    replace st := st.join s3
    clear s3
    obtain ⟨o3, q3, rfl⟩ := st.shapeI0
    go_wp2_with fail
    refine (sameInts_any _ _ _ _ _ _ _ (st.cells 1 rfl) (st.cells 0 rfl) (st.len 1 rfl) (st.len 0 rfl)).mono ?_
    rintro e W4 ⟨rfl, d⟩
    replace st := st.dr d
    clear d
    rw [eqL_true rfl]
  · go_wp2_with fail
    refine (sameInts_any _ _ _ _ _ _ _ (st.cells 1 rfl) (st.cells 0 rfl) (st.len 1 rfl) (st.len 0 rfl)).mono ?_
    rintro e W5 ⟨rfl, d⟩
    replace st := st.dr d
    clear d
    rw [eqL_true rfl]
    go_wp2_with fail
    go_ret
    exact ⟨rfl, st.below⟩
  · obtain ⟨hg, q, rfl, hq⟩ := cellB_nat HB.out
    obtain ⟨a, b, c, ha, hb, hc, ha2, hb2, hc2, hor⟩ := three_facts hg hq
    have hp : pathsL ss q = [(a : Int), (b : Int), (c : Int)] := by simp [pathsL, HB.out, ha, hb, hc]
    have h3 : (pathsL ss q).length = 3 := by rw [hp]; rfl
    rw [h3] at st ⊢
    rw [hp] at st
    obtain ⟨bb, off, rfl, hc0⟩ := st.cellAt 1 rfl (j := 0) (by simp)
    obtain ⟨bb', off', he, hc1⟩ := st.cellAt 1 rfl (j := 1) (by simp)
    cases he
    obtain ⟨bb', off', he, hc22⟩ := st.cellAt 1 rfl (j := 2) (by simp)
    cases he
    have hc0 : W4.cell? ⟨bb, off, none⟩ = some (.int .i64 a) := hc0
    have hc1 : W4.cell? ⟨bb, off + 1, none⟩ = some (.int .i64 b) := hc1
    have hc22 : W4.cell? ⟨bb, off + 2, none⟩ = some (.int .i64 c) := hc22
    have HST := Lib.hid st
    have HT := Lib.hid (show List.foldl (· + ·) (0 : Int) [(a : Int), (b : Int), (c : Int)] = (a : Int) + b + c by show (((0 : Int) + a) + b) + c = _; omega)
    clear hg hq hp h3 st ha hb hc
    have hW : ∀ (X : Nat), X ≤ 200 → min a (min b c) = X → (((a : Int) + b + c == 3 * X) = true ∨ ((a : Int) + b + c == 3 * X) = false ∧ ((a : Int) + b + c == 3 * X + 1) = true) := fun X _ hX => by
      rw [hX] at hor
      by_cases e : (a : Int) + b + c = 3 * X
      · exact .inl (beq_iff_eq.2 e)
      · exact .inr ⟨beq_eq_false_iff_ne.2 e, beq_iff_eq.2 (by omega)⟩
    clear hor
    rcases Int.lt_or_le (c : Int) b with h1 | h1
    · rcases Int.lt_or_le (c : Int) a with h2 | h2
      · rcases hW c (by omega) (by omega) with e1 | ⟨e1, e2⟩
        all_goals
          clear hW
          go_wp2_with fail
          go_region
          all_goals
            go_wp2_with fail
            refine (total_any _ _ _ _ ((HST.out.dr ⟨_, rfl⟩).cells 1 rfl) (by simp) (by intro x hx; simp at hx; omega)).mono ?_
            rintro e W5 ⟨rfl, rfl⟩
            rw [HT.out]
            have hb := (HST.out.dr ⟨1, rfl⟩).below
            go_wp2
            go_ret
            exact ⟨rfl, hb⟩
      · rcases hW a (by omega) (by omega) with e1 | ⟨e1, e2⟩
        all_goals
          clear hW
          go_wp2_with fail
          go_region
          all_goals
            go_wp2_with fail
            refine (total_any _ _ _ _ ((HST.out.dr ⟨_, rfl⟩).cells 1 rfl) (by simp) (by intro x hx; simp at hx; omega)).mono ?_
            rintro e W5 ⟨rfl, rfl⟩
            rw [HT.out]
            have hb := (HST.out.dr ⟨1, rfl⟩).below
            go_wp2
            go_ret
            exact ⟨rfl, hb⟩
    · rcases Int.lt_or_le (b : Int) a with h2 | h2
      · rcases hW b (by omega) (by omega) with e1 | ⟨e1, e2⟩
        all_goals
          clear hW
          go_wp2_with fail
          go_region
          all_goals
            go_wp2_with fail
            refine (total_any _ _ _ _ ((HST.out.dr ⟨_, rfl⟩).cells 1 rfl) (by simp) (by intro x hx; simp at hx; omega)).mono ?_
            rintro e W5 ⟨rfl, rfl⟩
            rw [HT.out]
            have hb := (HST.out.dr ⟨1, rfl⟩).below
            go_wp2
            go_ret
            exact ⟨rfl, hb⟩
      · rcases hW a (by omega) (by omega) with e1 | ⟨e1, e2⟩
        all_goals
          clear hW
          go_wp2_with fail
          go_region
          all_goals
            go_wp2_with fail
            refine (total_any _ _ _ _ ((HST.out.dr ⟨_, rfl⟩).cells 1 rfl) (by simp) (by intro x hx; simp at hx; omega)).mono ?_
            rintro e W5 ⟨rfl, rfl⟩
            rw [HT.out]
            have hb := (HST.out.dr ⟨1, rfl⟩).below
            go_wp2
            go_ret
            exact ⟨rfl, hb⟩

end Go.Proofs.Ytcacbkcckfgkjaa.fnThree
