/- The walk through the law FnPairs: All ports have partners. (P41) -/
import Derived.Test.YtecnmikfaoankaaDrawSomeW
import Derived.Test.YtecnmikfaoankaaPortW
import Derived.Test.YtecnmikfaoankaaEndL
import Derived.Test.YtecnmikfaoankaaStS
import Derived.Test.YtecnmikfaoankaaSameW
import Derived.Test.YtecnmikfaoankaaPairsW
namespace Go.Proofs.Ytecnmikfaoankaa.fnPairs
open Go.RowKit
set_option linter.unusedVariables false

theorem walk (a0 : Option Addr) (cap0 : Nat) (z0 : List Int) (w : World) (c0 : CellsY w a0 z0) (m0 : z0.length ≤ cap0 ∧ cap0 ≤ maxLen) :
    Calls Try.prog 5 #[.slice a0 z0.length cap0] w fun e w' => e = .returned (.bool true) ∧ Below w.heap.size w w' := by
  have m1 : z0.length ≤ maxLen := Nat.le_trans m0.1 m0.2
  by_cases h0 : 1048576 < z0.length
  · unfold maxLen at m1
    clear m0
    go_enter Try.func5, Try.ntmps5
    go_wp2
    go_ret
    exact ⟨rfl, Below.refl _ _⟩
  have l0 : z0.length ≤ 1048576 := by omega
  clear h0
  go_enter Try.func5, Try.ntmps5
  go_wp2_with fail
  refine (DrawBeamPairs_any a0 cap0 z0 w c0 m0.1 m0.2).mono ?_
  rintro e W1 ⟨v1, ss, rfl, l1, l4, sz, st⟩
  obtain ⟨o1, q1, rfl⟩ := st.shapeS 0 rfl
  have lm : ss.length ≤ maxLen := by unfold maxLen; omega
  have szm := sizes_max sz
  clear c0 m0 m1 sz
  cases hg : gridB ss
  all_goals
    have HG := Lib.hid hg
    clear hg
    go_wp2_with fail
    have R := iBeamPairs_any o1 q1 ss _ (st.texts 0 rfl) lm szm
    rw [HG.out] at R
    refine R.mono ?_
    rintro e W2 ⟨v2, rfl, s2⟩
    clear R
    replace st := st.join s2
    clear s2
    obtain ⟨o2, q2, rfl⟩ := st.shapeI0
    go_wp2_with fail
    have R := sBeamPairs_any o1 q1 ss _ (st.texts 1 rfl) lm szm
    rw [HG.out] at R
    refine R.mono ?_
    rintro e W3 ⟨v3, rfl, s3⟩
    clear R
    replace st := st.join s3
    clear s3
    obtain ⟨o3, q3, rfl⟩ := st.shapeI0
    go_wp2_with fail
    refine (sameInts_any _ _ _ _ _ _ _ (st.cells 1 rfl) (st.cells 0 rfl) (st.len 1 rfl) (st.len 0 rfl)).mono ?_
    rintro e W4 ⟨rfl, d⟩
    replace st := st.dr d
    clear d
    rw [eqL_true rfl]
  · go_wp2_with fail
    refine (sameInts_any _ _ _ _ _ _ _ (st.cells 1 rfl) (st.cells 0 rfl) (st.len 1 rfl) (st.len 0 rfl)).mono ?_
    rintro e W5 ⟨rfl, d⟩
    replace st := st.dr d
    clear d
    rw [eqL_true rfl]
    go_wp2_with fail
    go_ret
    exact ⟨rfl, st.below⟩
  · have hok := gr_ok HG.out
    have hLe : beamsB ss = (gr ss).endsTo (gr ss).ports := by simp [beamsB, HG.out]
    have hll : (beamsB ss).length = (gr ss).ports := by rw [hLe, Gr.endsTo_length]
    have hpb : pairsB (beamsB ss) = true := by rw [hLe]; exact Gr.ends_pairs hok
    have hget : ∀ k, k < (beamsB ss).length → (beamsB ss).getD k 0 = ((gr ss).endOf k : Nat) := fun k hk => by rw [hLe]; exact Gr.endsTo_getD hok (by omega)
    have hp20 := Gr.ports_bd hok
    have hend : ((beamsB ss).length : Int) = 2 * ((ss.length : Int) + ((rowOf ss 0).size : Int)) := by
      rw [hll]
      show ((2 * ss.length + 2 * (rowOf ss 0).size : Nat) : Int) = _
      omega
    have HLL := Lib.hid hll
    have HPB := Lib.hid hpb
    have HGET := Lib.hid hget
    have HEND := Lib.hid hend
    have hl20 : (beamsB ss).length ≤ 20 := by omega
    have hpos : 0 < ss.length := by omega
    clear hok hLe hll hpb hget hend hp20
    generalize beamsB ss = L at *
    go_wp2_with fail
    go_loopw [8] (fun v8 wr => ∃ k : Nat, k ≤ L.length ∧ v8 = .int .i64 k ∧ St w wr [SI (.slice o3 L.length q3) L, SI (.slice o2 L.length q2) L, SS (.slice o1 ss.length q1) ss]) (fun v8 _ => L.length - (intOf v8).toNat)
    case atStart => exact ⟨0, Nat.zero_le _, rfl, st⟩
    case round =>
      clear st
      obtain ⟨k, hk, rfl, st⟩ := hrel
      by_cases hlt : k < L.length
      · go_wp2_with fail
        refine (beamEnd_any o1 q1 ss k _ (st.texts 2 rfl) lm szm HG.out (by rw [← HLL.out]; exact hlt)).mono ?_
        rintro e W5 ⟨rfl, b⟩
        replace st := st.step b
        obtain ⟨bb, off, rfl, hc⟩ := st.cellAt 1 rfl hlt
        rw [HGET.out k hlt] at hc
        have ST := Lib.hid st
        clear st b
        go_wp2
        go_roundw
        case rel => exact ⟨k + 1, by omega, by go_num, ST.out⟩
        case measure => simp [intOf]; omega
      · obtain rfl : k = L.length := by omega
        go_wp2_with fail
        have R := iCrossIn_any o2 q2 L _ (st.cells 1 rfl) (st.len 1 rfl)
        rw [HPB.out] at R
        refine R.mono ?_
        rintro e w' ⟨rfl, rfl⟩
        clear R
        obtain ⟨b, off, rfl, hc⟩ := st.textAt 2 rfl hpos
        rw [Nat.add_zero] at hc
        have hE := HEND.out
        have hs5 : (rowOf ss 0).size ≤ 5 := (gr_ok HG.out).m5
        generalize rowOf ss 0 = s0 at hc hE hs5
        have ST := Lib.hid st
        have hE2 : ((L.length : Int) == 2 * ((ss.length : Int) + (s0.size : Int))) = true := by rw [beq_iff_eq]; exact hE
        clear st hE
        go_wp2
        go_ret
        exact ⟨rfl, ST.out.below⟩

end Go.Proofs.Ytecnmikfaoankaa.fnPairs
