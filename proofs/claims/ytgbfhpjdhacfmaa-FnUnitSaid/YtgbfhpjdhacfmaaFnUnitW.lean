/- The walk through the law FnUnit: Empty grids pair both ends. (P59) -/
import Derived.Test.YtgbfhpjdhacfmaaDrawSizeW
import Derived.Test.YtgbfhpjdhacfmaaUnitBL
import Derived.Test.YtgbfhpjdhacfmaaGridOfW
import Derived.Test.YtgbfhpjdhacfmaaPairsBW
import Derived.Test.YtgbfhpjdhacfmaaChordsW
import Derived.Test.YtgbfhpjdhacfmaaSameW
import Derived.Test.YtgbfhpjdhacfmaaStS
namespace Go.Proofs.Ytgbfhpjdhacfmaa.fnUnit
open Go.RowKit
set_option linter.unusedVariables false

theorem walk (a0 : Option Addr) (cap0 : Nat) (z0 : List Int) (w : World) (c0 : CellsY w a0 z0) (m0 : z0.length ≤ cap0 ∧ cap0 ≤ maxLen) :
    Calls Try.prog 6 #[.slice a0 z0.length cap0] w fun e w' => e = .returned (.bool true) ∧ Below w.heap.size w w' := by
  have m1 : z0.length ≤ maxLen := Nat.le_trans m0.1 m0.2
  by_cases h0 : 1048576 < z0.length
  · unfold maxLen at m1
    clear m0
    go_enter Try.func6, Try.ntmps6
    go_wp2
    go_ret
    exact ⟨rfl, Below.refl _ _⟩
  have l0 : z0.length ≤ 1048576 := by omega
  clear h0
  go_enter Try.func6, Try.ntmps6
  go_wp2_with fail
  refine (DrawJoinUnit_any a0 cap0 z0 w c0 m0.1 m0.2).mono ?_
  rintro e W1 ⟨n, m, rfl, n0, n1, mm0, mm1, st⟩
  clear c0 m0 m1
  cases hb : unitB n m
  all_goals
    have HB := Lib.hid hb
    clear hb
    go_wp2_with fail
    have R := iJoinUnit_any n m W1
    rw [HB.out] at R
    refine R.mono ?_
    rintro e W2 ⟨v2, rfl, o, b⟩
    clear R
    replace st := st.add o b
    obtain ⟨o2, q2, rfl⟩ := o.shape2
    clear o b
    go_wp2_with fail
    have R := sJoinUnit_any n m W2
    rw [HB.out] at R
    refine R.mono ?_
    rintro e W3 ⟨v3, rfl, o, b⟩
    clear R
    replace st := st.add o b
    obtain ⟨o3, q3, rfl⟩ := o.shape2
    clear o b
    go_wp2_with fail
    refine (sameInts_any _ _ _ _ _ _ _ (st.cells 1 rfl) (st.cells 0 rfl) (st.len 1 rfl) (st.len 0 rfl)).mono ?_
    rintro e W4 ⟨rfl, d⟩
    replace st := st.dr d
    clear d
    rw [eqL_true rfl]
  · go_wp2_with fail
    refine (sameInts_any _ _ _ _ _ _ _ (st.cells 1 rfl) (st.cells 0 rfl) (st.len 1 rfl) (st.len 0 rfl)).mono ?_
    rintro e W5 ⟨rfl, d⟩
    replace st := st.dr d
    clear d
    rw [eqL_true rfl]
    go_wp2_with fail
    go_ret
    exact ⟨rfl, st.below⟩
  · have hb := HB.out
    simp only [unitB, Bool.and_eq_true, inB_iff] at hb
    obtain ⟨n, rfl⟩ := Int.eq_ofNat_of_zero_le (show 0 ≤ n by omega)
    obtain ⟨m, rfl⟩ := Int.eq_ofNat_of_zero_le (show 0 ≤ m by omega)
    obtain ⟨hg, he⟩ := beams_empty (n := n) (m := m) (f := ofF 0 m) (by omega) (by omega) (by omega) (by omega) fun i k _ _ => by simp [ofF, dgl]
    have hOk : ofNB n m 0 = true := by
      simp only [ofNB, Bool.and_eq_true, inB_iff, decide_eq_true_iff]
      refine ⟨⟨⟨by omega, by omega⟩, by omega⟩, Int.pow_pos (by omega)⟩
    have hOl : ofNL n m 0 = gridT n m (ofF 0 m) := by simp [ofNL, hOk]
    obtain ⟨hc1, hc2⟩ := unit_chords n (by simp; omega) m (by simp; omega)
    have hl2 : (gridT n m (ofF 0 m)).length ≤ maxLen := by
      rw [gridT_length]
      unfold maxLen
      omega
    have hs2 : ∀ s ∈ gridT n m (ofF 0 m), s.size ≤ maxLen := fun s hs => by
      obtain ⟨i, hi, rfl⟩ := List.mem_map.1 hs
      rw [rowT_size]
      unfold maxLen
      omega
    have q0 : (0 : Int) ≤ (n : Int) * m := Int.mul_nonneg (by omega) (by omega)
    have q1' : (n : Int) * m ≤ 5 * 5 := Int.mul_le_mul (by omega) (by omega) (by omega) (by omega)
    have HG := Lib.hid hg
    have HE := Lib.hid he
    have HOK := Lib.hid hOk
    have HOL := Lib.hid hOl
    have HC1 := Lib.hid hc1
    have HC2 := Lib.hid hc2
    have bq : ((n : Int) * m == (n : Int) * m) = true := beq_self_eq_true _
    clear hg he hOk hOl hc1 hc2 hb
    go_wp2_with fail
    have R := iGridOf_any n m 0 W4 (by omega)
    rw [HOK.out, HOL.out] at R
    refine R.mono ?_
    rintro e W5 ⟨v5, rfl, s5⟩
    clear R
    replace st := st.join s5
    clear s5
    obtain ⟨o5, q5, rfl⟩ := st.shapeS 0 rfl
    go_wp2_with fail
    have R := iBeamPairs_any o5 q5 _ _ (st.texts 0 rfl) hl2 hs2
    rw [HG.out, HE.out] at R
    refine R.mono ?_
    rintro e W6 ⟨v6, rfl, s6⟩
    clear R
    replace st := st.join s6
    clear s6
    obtain ⟨o6, q6, rfl⟩ := st.shapeI0
    go_wp2_with fail
    have R := iCrossChords_any o2 q2 _ _ (st.cells 3 rfl) (st.len 3 rfl)
    rw [HC1.out, HC2.out] at R
    refine R.mono ?_
    rintro e w' ⟨rfl, rfl⟩
    clear R
    go_wp2_with fail
    refine (sameInts_any _ _ _ _ _ _ _ (st.cells 0 rfl) (st.cells 3 rfl) (st.len 0 rfl) (st.len 3 rfl)).mono ?_
    rintro e W8 ⟨rfl, d⟩
    replace st := st.dr d
    clear d
    rw [eqL_true rfl]
    go_wp2_with fail
    go_ret
    exact ⟨rfl, st.below⟩

end Go.Proofs.Ytgbfhpjdhacfmaa.fnUnit
