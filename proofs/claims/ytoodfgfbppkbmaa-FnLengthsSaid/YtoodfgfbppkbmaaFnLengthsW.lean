/- The walk through the law FnLengths: Lengths of all paths add up to twice the cells. (P26) -/
import Derived.Test.YtoodfgfbppkbmaaLensDW
import Derived.Test.YtoodfgfbppkbmaaLensLawL
import Derived.Test.YtoodfgfbppkbmaaLensSW
import Derived.Test.YtoodfgfbppkbmaaTotalW
import Derived.Test.YtoodfgfbppkbmaaSameW
import Derived.Test.YtoodfgfbppkbmaaStS
namespace Go.Proofs.Ytoodfgfbppkbmaa.fnLengths
open Go.RowKit
set_option linter.unusedVariables false

theorem walk (a0 : Option Addr) (cap0 : Nat) (z0 : List Int) (w : World) (c0 : CellsY w a0 z0) (m0 : z0.length ≤ cap0 ∧ cap0 ≤ maxLen) :
    Calls Try.prog 5 #[.slice a0 z0.length cap0] w fun e w' => e = .returned (.bool true) ∧ Below w.heap.size w w' := by
  have m1 : z0.length ≤ maxLen := Nat.le_trans m0.1 m0.2
  by_cases h0 : 1048576 < z0.length
  · unfold maxLen at m1
    clear m0
    go_enter Try.func5, Try.ntmps5
    go_wp2
    go_ret
    exact ⟨rfl, Below.refl _ _⟩
  have l0 : z0.length ≤ 1048576 := by omega
  clear h0
  go_enter Try.func5, Try.ntmps5
  go_wp2_with fail
  refine (DrawRoundLengths_any a0 cap0 z0 w c0 m0.1 m0.2).mono ?_
  rintro e W1 ⟨v1, ss, rfl, l1, l5, sz, st⟩
  obtain ⟨o1, q1, rfl⟩ := st.shapeS 0 rfl
  have lm : ss.length ≤ maxLen := by unfold maxLen; omega
  have SZ : Hid (∀ s ∈ ss, s.size ≤ maxLen) := fun s hs => by have := sz s hs; unfold maxLen; omega
  clear c0 m0 m1 sz
  cases hg : gridB ss
  all_goals
    have HG := Lib.hid hg
    clear hg
    go_wp2_with fail
    have R := iRoundLengths_any o1 q1 ss _ (st.texts 0 rfl) lm SZ.out
    rw [HG.out] at R
    refine R.mono ?_
    rintro e W2 ⟨v2, rfl, s2⟩
    clear R
    replace st := st.join s2
    clear s2
    obtain ⟨o2, q2, rfl⟩ := st.shapeI0
    go_wp2_with fail
    have R := sRoundLengths_any o1 q1 ss _ (st.texts 1 rfl) lm SZ.out
    rw [HG.out] at R
    refine R.mono ?_
    rintro e W3 ⟨v3, rfl, s2⟩
    clear R
    replace st := st.join s2
    clear s2
    obtain ⟨o3, q3, rfl⟩ := st.shapeI0
    go_wp2_with fail
    refine (sameInts_any _ _ _ _ _ _ _ (st.cells 1 rfl) (st.cells 0 rfl) (st.len 1 rfl) (st.len 0 rfl)).mono ?_
    rintro e W4 ⟨rfl, d⟩
    replace st := st.dr d
    clear d
    rw [eqL_true rfl]
  · go_wp2_with fail
    refine (sameInts_any _ _ _ _ _ _ _ (st.cells 1 rfl) (st.cells 0 rfl) (st.len 1 rfl) (st.len 0 rfl)).mono ?_
    rintro e W5 ⟨rfl, d⟩
    replace st := st.dr d
    clear d
    rw [eqL_true rfl]
    go_wp2_with fail
    go_ret
    exact ⟨rfl, st.below⟩
  · have hok := gr_ok HG.out
    have h25 := Gr.size_le hok
    obtain ⟨A, hA, hS, hl12, hm, hpw⟩ := lens_facts HG.out
    have hBe : beamsB ss = (gr ss).endsTo (gr ss).ports := by simp [beamsB, HG.out]
    have hBl : (beamsB ss).length = (gr ss).ports := by rw [hBe, Gr.endsTo_length]
    have HGET : Hid (∀ k, k < (gr ss).ports → (beamsB ss).getD k 0 = ((gr ss).endOf k : Nat)) := fun k hk => by rw [hBe]; exact Gr.endsTo_getD hok hk
    have hp20 := (Gr.ports_bd hok).2
    obtain ⟨tot, hT⟩ : ∃ f : Nat → Nat, ∀ i, f i = A + (gr ss).lessTo i := ⟨_, fun _ => rfl⟩
    have HYES : Hid (∀ i, i < (gr ss).endOf i → tot (i + 1) = tot i + (gr ss).lenOf i) := fun i h => by rw [hT, hT, Gr.lessTo_yes h]; omega
    have HNO : Hid (∀ i, ¬ i < (gr ss).endOf i → tot (i + 1) = tot i) := fun i h => by rw [hT, hT, Gr.lessTo_no h]
    have HSB : Hid (∀ i, i ≤ (gr ss).ports → tot i ≤ 50) := fun i hi => by
      have := Gr.lessTo_le (gr ss) i ((gr ss).ports - i)
      rw [show i + ((gr ss).ports - i) = (gr ss).ports by omega] at this
      rw [hT]
      omega
    have H0 : Hid (tot 0 = A) := by show _ = _; rw [hT]; rfl
    have HEQ : Hid ((tot (gr ss).ports : Int) = 2 * (ss.length : Int) * ((rowOf ss 0).size : Int)) := by
      show (tot (gr ss).ports : Int) = 2 * (ss.length : Int) * ((rowOf ss 0).size : Int)
      rw [hT, hS]
      show ((2 * (ss.length * (rowOf ss 0).size) : Nat) : Int) = _
      rw [Int.natCast_mul, Int.natCast_mul, Int.mul_assoc]
      rfl
    have HBL := Lib.hid hBl
    have HA := Lib.hid hA
    have HSUM : Hid (∀ x ∈ lensS ss, 0 ≤ x ∧ x ≤ 1000) := fun x hx => by have := hm x hx; omega
    have HM : Hid (∀ i, i < (lensS ss).length → 4 ≤ (lensS ss).getD i 0 ∧ (lensS ss).getD i 0 ≤ 50 ∧ (lensS ss).getD i 0 % 2 = 0) := fun i hi => by
      rw [List.getD_eq_getElem?_getD, List.getElem?_eq_getElem hi]
      exact hm _ (List.getElem_mem hi)
    have HPW : Hid (∀ i, i + 1 < (lensS ss).length → (lensS ss).getD i 0 ≤ (lensS ss).getD (i + 1) 0) := fun i hi => by
      rw [List.getD_eq_getElem?_getD, List.getElem?_eq_getElem (show i < _ by omega), List.getD_eq_getElem?_getD, List.getElem?_eq_getElem hi]
      exact (List.pairwise_iff_getElem.1 hpw) i (i + 1) (by omega) hi (by omega)
    have HLN := Lib.hid fun k W (hx : CellsS W o1 ss) (hk : k < (gr ss).ports) => BeamLength_any o1 q1 ss k W hx lm SZ.out HG.out hk
    clear hok hA hS hm hpw hBe hBl h25 hT
    generalize lensS ss = O at *
    generalize (gr ss).lenOf = lenF at *
    generalize (gr ss).endOf = endF at *
    generalize (gr ss).ports = P at *
    go_wp2_with fail
    refine (total_any o2 q2 O W4 (st.cells 1 rfl) (by omega) HSUM.out).mono ?_
    rintro e W5 ⟨rfl, rfl⟩
    rw [HA.out]
    go_wp2_with fail
    have R := iBeamPairs_any o1 q1 ss _ (st.texts 2 rfl) lm SZ.out
    rw [HG.out] at R
    refine R.mono ?_
    rintro e W6 ⟨v6, rfl, s2⟩
    clear R
    replace st := st.join s2
    clear s2
    obtain ⟨o6, q6, rfl⟩ := st.shapeI0
    simp only [HBL.out] at st ⊢
    generalize beamsB ss = L at *
    go_wp2_with fail
    go_loopg [8, 11] P (fun kk v8 v11 wr => ∃ i : Nat, kk + i = P ∧ v11 = .int .i64 i ∧ v8 = .int .i64 (tot i : Nat) ∧ St w wr [SI (.slice o6 P q6) L, SI (.slice o3 O.length q3) O, SI (.slice o2 O.length q2) O, SS (.slice o1 ss.length q1) ss])
    case atStart => exact ⟨0, by omega, rfl, by rw [H0.out], st⟩
    case round =>
      clear st
      obtain ⟨i, hi, rfl, rfl, st⟩ := hrel
      by_cases hlt : i < P
      · have hb1 := HSB.out i (by omega)
        have hb2 := HSB.out (i + 1) (by omega)
        go_wp2_with fail
        refine (HLN.out i _ (st.texts 3 rfl) hlt).mono ?_
        rintro e W7 ⟨rfl, b⟩
        replace st := st.step b
        clear b
        obtain ⟨b1, f1, rfl, hc⟩ := st.cellAt 0 rfl (j := i) (by rw [HBL.out]; exact hlt)
        rw [HGET.out i hlt] at hc
        have HST := Lib.hid st
        clear st
        by_cases he : i < endF i
        · have hy := HYES.out i he
          have HY := Lib.hid hy
          rw [hy] at hb2
          have e1 : decide ((i : Int) < (endF i : Int)) = true := decide_eq_true (by omega)
          clear hy
          generalize tot i = X at *
          generalize lenF i = Y at *
          go_wp2
          go_roundg (gk - 1)
          case rel => exact ⟨i + 1, by omega, by go_num, by rw [HY.out]; go_num, HST.out⟩
          case measure => omega
        · have HY := Lib.hid (HNO.out i he)
          have e1 : decide ((i : Int) < (endF i : Int)) = false := decide_eq_false (by omega)
          generalize tot i = X at *
          clear hb2
          go_wp2
          go_roundg (gk - 1)
          case rel => exact ⟨i + 1, by omega, by go_num, by rw [HY.out], HST.out⟩
          case measure => omega
      · obtain rfl : i = P := by omega
        have hb := HSB.out i (Nat.le_refl _)
        have HB := Lib.hid hb
        go_wp2_with fail
        go_loopg [14] O.length (fun kk v14 wq => ∃ j : Nat, kk + j = O.length ∧ v14 = .int .i64 j ∧ St w wq [SI (.slice o6 i q6) L, SI (.slice o3 O.length q3) O, SI (.slice o2 O.length q2) O, SS (.slice o1 ss.length q1) ss])
        case atStart => exact ⟨0, by omega, rfl, st⟩
        case round =>
          clear st
          obtain ⟨j, hj, rfl, st⟩ := hrel
          by_cases hlt2 : j < O.length
          · obtain ⟨b2, f2, rfl, hc⟩ := st.cellAt 2 rfl hlt2
            have hm := HM.out j hlt2
            have e1 : decide (O.getD j 0 < 4) = false := decide_eq_false (by omega)
            have e2 : (O.getD j 0 % 2 == 1) = false := by rw [beq_eq_false_iff_ne]; omega
            have e3 : (Int.tmod (O.getD j 0) 2 == 1) = false := by rw [Int.tmod_eq_emod_of_nonneg (by omega)]; exact e2
            cases j with
            | zero =>
              rw [Nat.add_zero] at hc
              have HST := Lib.hid st
              clear st
              generalize O.getD 0 0 = y at *
              go_wp2
              go_region
              all_goals
                go_wp2
                go_roundg (gk - 1)
                case rel => exact ⟨1, by omega, by go_num, HST.out.dr ⟨1, rfl⟩⟩
                case measure => omega
            | succ j =>
              obtain ⟨b3, f3, h9, hc3⟩ := st.cellAt 2 rfl (j := j) (by omega)
              cases h9
              have hle := HPW.out j hlt2
              have e4 : decide (O.getD (j + 1) 0 < O.getD j 0) = false := decide_eq_false (by omega)
              have HST := Lib.hid st
              clear st
              generalize O.getD (j + 1) 0 = y at *
              generalize O.getD j 0 = y' at *
              have e7 : IntKind.i64.wrap ((j : Int) + 1 - 1) = j := by rw [show (j : Int) + 1 - 1 = j by omega]; exact IntWalk.i64_in _ (by omega)
              have e8 : IntKind.i64.wrap (j : Int) = j := IntWalk.i64_in _ (by omega)
              have e9 : (j : Int) + 1 - 1 = j := by omega
              have e10 : (0 : Int) < (j : Int) + 1 := by omega
              go_wp2
              go_region
              all_goals
                go_wp2
                go_roundg (gk - 1)
                case rel => exact ⟨j + 2, by omega, by go_num, HST.out.dr ⟨1, rfl⟩⟩
                case measure => omega
          · obtain ⟨b, off, rfl, hc⟩ := st.textAt 3 rfl (j := 0) (by omega)
            rw [Nat.add_zero] at hc
            have hE := HEQ.out
            generalize rowOf ss 0 = s0 at hc hE
            have hW : IntKind.i64.wrap (2 * (ss.length : Int) * (s0.size : Int)) = (tot i : Nat) := by rw [← hE]; exact IntWalk.i64_in _ (by have := HB.out; omega)
            have hE2 : ((tot i : Int) == 2 * (ss.length : Int) * (s0.size : Int)) = true := by rw [beq_iff_eq]; exact hE
            have hE3 : ((tot i : Int) == (tot i : Int)) = true := beq_self_eq_true _
            have HST := Lib.hid st
            clear st hE
            go_wp2
            go_ret
            exact ⟨rfl, HST.out.below⟩

end Go.Proofs.Ytoodfgfbppkbmaa.fnLengths
