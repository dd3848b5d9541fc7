/- The walk through the law FnFlipPairs: Grids flipped have flipped pairings. (P55) -/
import Derived.Test.YtecnmikfaoankaaDrawSomeW
import Derived.Test.YtecnmikfaoankaaPortW
import Derived.Test.YtecnmikfaoankaaTurnPL
import Derived.Test.YtecnmikfaoankaaStS
import Derived.Test.YtecnmikfaoankaaSameW
namespace Go.Proofs.Ytecnmikfaoankaa.fnFlipPairs
open Go.RowKit
set_option linter.unusedVariables false

theorem walk (a0 : Option Addr) (cap0 : Nat) (z0 : List Int) (w : World) (c0 : CellsY w a0 z0) (m0 : z0.length ≤ cap0 ∧ cap0 ≤ maxLen) :
    Calls Try.prog 10 #[.slice a0 z0.length cap0] w fun e w' => e = .returned (.bool true) ∧ Below w.heap.size w w' := by
  have m1 : z0.length ≤ maxLen := Nat.le_trans m0.1 m0.2
  by_cases h0 : 1048576 < z0.length
  · unfold maxLen at m1
    clear m0
    go_enter Try.func10, Try.ntmps10
    go_wp2
    go_ret
    exact ⟨rfl, Below.refl _ _⟩
  have l0 : z0.length ≤ 1048576 := by omega
  clear h0
  go_enter Try.func10, Try.ntmps10
  go_wp2_with fail
  refine (DrawBeamPairs_any a0 cap0 z0 w c0 m0.1 m0.2).mono ?_
  rintro e W1 ⟨v1, ss, rfl, l1, l4, sz, st⟩
  obtain ⟨o1, q1, rfl⟩ := st.shapeS 0 rfl
  have lm : ss.length ≤ maxLen := by unfold maxLen; omega
  have szm := sizes_max sz
  clear c0 m0 m1 sz
  cases hg : gridB ss
  all_goals
    have HG := Lib.hid hg
    clear hg
    go_wp2_with fail
    have R := iBeamPairs_any o1 q1 ss _ (st.texts 0 rfl) lm szm
    rw [HG.out] at R
    refine R.mono ?_
    rintro e W2 ⟨v2, rfl, s2⟩
    clear R
    replace st := st.join s2
    clear s2
    obtain ⟨o2, q2, rfl⟩ := st.shapeI0
    go_wp2_with fail
    have R := sBeamPairs_any o1 q1 ss _ (st.texts 1 rfl) lm szm
    rw [HG.out] at R
    refine R.mono ?_
    rintro e W3 ⟨v3, rfl, s3⟩
    clear R
    replace st := st.join s3
    clear s3
    obtain ⟨o3, q3, rfl⟩ := st.shapeI0
    go_wp2_with fail
    refine (sameInts_any _ _ _ _ _ _ _ (st.cells 1 rfl) (st.cells 0 rfl) (st.len 1 rfl) (st.len 0 rfl)).mono ?_
    rintro e W4 ⟨rfl, d⟩
    replace st := st.dr d
    clear d
    rw [eqL_true rfl]
  · go_wp2_with fail
    refine (sameInts_any _ _ _ _ _ _ _ (st.cells 1 rfl) (st.cells 0 rfl) (st.len 1 rfl) (st.len 0 rfl)).mono ?_
    rintro e W5 ⟨rfl, d⟩
    replace st := st.dr d
    clear d
    rw [eqL_true rfl]
    go_wp2_with fail
    go_ret
    exact ⟨rfl, st.below⟩
  · have hOf : ofB ss.length (rowOf ss 0).size (beamsB ss) = true := beams_of HG.out
    have hJ : jflipL ss.length (rowOf ss 0).size (beamsB ss) = beamsB (flipS ss) := beams_flip HG.out
    have hg2 := flipS_ok HG.out
    have hl2 : (flipS ss).length ≤ maxLen := by
      have := (gr_ok hg2).n5
      have : (flipS ss).length ≤ 5 := this
      unfold maxLen
      omega
    have hs2 : ∀ s ∈ flipS ss, s.size ≤ maxLen := fun s hs => by
      obtain ⟨i, hi, rfl⟩ := List.getElem_of_mem hs
      have h1 := gr_row hg2 hi
      have h2 := (gr_ok hg2).m5
      have h3 : rowOf (flipS ss) i = (flipS ss)[i] := by simp [rowOf, hi]
      rw [← h3, h1]
      unfold maxLen
      omega
    have hpos : 0 < ss.length := by omega
    have hs5 : (rowOf ss 0).size ≤ 5 := (gr_ok HG.out).m5
    have HOF := Lib.hid hOf
    have HJ := Lib.hid hJ
    have HG2 := Lib.hid hg2
    clear hOf hJ hg2
    go_wp2_with fail
    have R := iGridFlip_any o1 q1 ss _ (st.texts 2 rfl) lm szm
    rw [HG.out] at R
    refine R.mono ?_
    rintro e W5 ⟨v5, rfl, s5⟩
    clear R
    replace st := st.join s5
    clear s5
    obtain ⟨o5, q5, rfl⟩ := st.shapeS 0 rfl
    go_wp2_with fail
    have R := iBeamPairs_any o5 q5 _ _ (st.texts 0 rfl) hl2 hs2
    rw [HG2.out] at R
    refine R.mono ?_
    rintro e W6 ⟨v6, rfl, s6⟩
    clear R
    replace st := st.join s6
    clear s6
    obtain ⟨o6, q6, rfl⟩ := st.shapeI0
    obtain ⟨b, off, he, hc⟩ := st.textAt 4 rfl hpos
    cases he
    rw [Nat.add_zero] at hc
    generalize rowOf ss 0 = s0 at *
    go_wp2_with fail
    have R := iJoinFlip_any ss.length s0.size o2 q2 _ _ (st.cells 3 rfl) (st.len 3 rfl)
    rw [HOF.out, HJ.out] at R
    refine R.mono ?_
    rintro e W7 ⟨v7, rfl, o, b⟩
    clear R
    replace st := st.add o b
    obtain ⟨o7, q7, rfl⟩ := o.shape2
    clear o b
    go_wp2_with fail
    refine (sameInts_any _ _ _ _ _ _ _ (st.cells 1 rfl) (st.cells 0 rfl) (st.len 1 rfl) (st.len 0 rfl)).mono ?_
    rintro e W8 ⟨rfl, d⟩
    replace st := st.dr d
    clear d
    rw [eqL_true rfl]
    go_wp2_with fail
    go_ret
    exact ⟨rfl, st.below⟩

end Go.Proofs.Ytecnmikfaoankaa.fnFlipPairs
