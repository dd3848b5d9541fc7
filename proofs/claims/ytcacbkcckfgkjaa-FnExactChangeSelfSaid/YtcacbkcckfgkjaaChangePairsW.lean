/- Contracts: how many partners a cell's exchange changes (ChangePairs both). -/
import Derived.Test.YtcacbkcckfgkjaaPut2W
import Derived.Test.YtcacbkcckfgkjaaRv
namespace Go.Proofs.Ytcacbkcckfgkjaa
open Go.RowKit
set_option linter.unusedVariables false
set_option linter.unusedSimpArgs false

/-- At how many ports the beams of two grids end otherwise. -/
noncomputable def chgN (g g' : Gr) : Nat := cntN (fun p => !(g.endOf p == g'.endOf p)) g.ports
noncomputable def chgL (ss : List ByteArray) (c : Int) : Int := if mirB ss c = true then (chgN (gr ss) (gr (putS ss c.toNat (exch ((gr ss).sig c.toNat)))) : Nat) else 0
theorem mirB_nat {ss : List ByteArray} {c : Int} (h : mirB ss c = true) : gridB ss = true ∧ ∃ q : Nat, c = q ∧ q < (gr ss).n * (gr ss).m ∧ (gr ss).sig q ≠ 46 := by
  simp only [mirB, Bool.and_eq_true, Bool.not_eq_true', beq_eq_false_iff_ne] at h
  obtain ⟨hg, q, rfl, hq⟩ := cellB_nat h.1
  exact ⟨hg, q, rfl, hq, h.2⟩
theorem putS_sides {ss : List ByteArray} (hg : gridB ss = true) (cell : Nat) (L : Int) : (gr (putS ss cell L)).n = (gr ss).n ∧ (gr (putS ss cell L)).m = (gr ss).m := by
  have hok := gr_ok hg
  refine ⟨gridT_length _ _ _, ?_⟩
  show (rowOf (putS ss cell L) 0).size = _
  unfold putS
  rw [gridT_row hok.n1, rowT_size]
theorem putS_ports {ss : List ByteArray} (hg : gridB ss = true) (cell : Nat) (L : Int) : (gr (putS ss cell L)).ports = (gr ss).ports := by
  have h := putS_sides hg cell L
  unfold Gr.ports
  rw [h.1, h.2]

theorem iChangePairs_any (ao : Option Addr) (cap : Nat) (ss : List ByteArray) (c : Int) (w : World) (hx : CellsS w ao ss) (hm : ss.length ≤ maxLen) (hsz : ∀ s ∈ ss, s.size ≤ maxLen) :
    Calls Try.prog 28 #[.slice ao ss.length cap, .int .i64 c] w fun e w' => e = .returned (.tuple #[.int .i64 (chgL ss c), .bool (mirB ss c)]) ∧ Below w.heap.size w w' := by
  have HMI := Lib.hid (mirrorAt_any ao cap ss c w hx hm hsz)
  have HX := Lib.hid hx
  clear hx hsz
  cases hb : mirB ss c
  · have HB := Lib.hid hb
    have HL := Lib.hid (show chgL ss c = 0 by simp [chgL, hb])
    clear hb
    go_enter Try.func28, Try.ntmps28
    go_wp2_with fail
    refine HMI.out.mono ?_
    rintro e w2 ⟨rfl, hd⟩
    rw [HB.out]
    go_wp2
    go_ret2
    exact ⟨by rw [HL.out]; rfl, hd.below _⟩
  · obtain ⟨hg, q, rfl, hq, hmir⟩ := mirB_nat hb
    have HB := Lib.hid hb
    have HG := Lib.hid hg
    have HQ := Lib.hid hq
    have hok := gr_ok hg
    have hL : chgL ss q = (chgN (gr ss) (gr (putS ss q (exch ((gr ss).sig q)))) : Nat) := by simp [chgL, hb]
    have hg2 := putS_ok hg q (exch_let (hok.let' _ _ (Gr.row_lt hok hq) (Gr.col_lt hok q)))
    have HG2 : Hid (gridB (putS ss q (exch ((gr ss).sig q))) = true) := hg2
    have hpp : (gr (putS ss q (exch ((gr ss).sig q)))).ports = (gr ss).ports := putS_ports hg q _
    have HPP := Lib.hid hpp
    have hp20 := (Gr.ports_bd hok).2
    have HL := Lib.hid hL
    have HEL := Lib.hid (Gr.endsTo_length (gr ss) (gr ss).ports)
    have HEL2 := Lib.hid (Gr.endsTo_length (gr (putS ss q (exch ((gr ss).sig q)))) (gr ss).ports)
    have HEG : Hid (∀ p, p < (gr ss).ports → ((gr ss).endsTo (gr ss).ports).getD p 0 = _) := fun p hp => Gr.endsTo_getD hok hp
    have HEG2 : Hid (∀ p, p < (gr ss).ports → ((gr (putS ss q (exch ((gr ss).sig q)))).endsTo (gr ss).ports).getD p 0 = ((gr (putS ss q (exch ((gr ss).sig q)))).endOf p : Nat)) := fun p hp => Gr.endsTo_getD (gr_ok hg2) hp
    have HN : Hid (chgN (gr ss) (gr (putS ss q (exch ((gr ss).sig q)))) = cntN (fun p => !((gr ss).endOf p == (gr (putS ss q (exch ((gr ss).sig q)))).endOf p)) (gr ss).ports) := rfl
    clear hb hg hq hok hL hmir hg2 hpp
    go_enter Try.func28, Try.ntmps28
    go_wp2_with fail
    refine HMI.out.mono ?_
    rintro e w2 ⟨rfl, hd⟩
    rw [HB.out]
    have st := (St.init w).dr hd
    go_wp2_with fail
    refine (other_any ao cap ss q _ (st.oldS HX.out) HG.out HQ.out).mono ?_
    rintro e w3 ⟨v3, rfl, s3⟩
    replace st := st.join s3
    obtain ⟨a3, c3, rfl⟩ := st.shapeS 0 rfl
    clear s3
    go_wp2_with fail
    refine (pairsOf_any a3 c3 _ _ (st.texts 0 rfl) HG2.out).mono ?_
    rintro e w4 ⟨v4, rfl, s4⟩
    rw [HPP.out] at s4
    replace st := st.join s4
    obtain ⟨a4, c4, rfl⟩ := st.shapeI 0 rfl
    clear s4
    rw [HEL2.out] at st ⊢
    go_wp2_with fail
    refine (pairsOf_any ao cap ss _ (st.oldS HX.out) HG.out).mono ?_
    rintro e w5 ⟨v5, rfl, s5⟩
    replace st := st.join s5
    obtain ⟨a5, c5, rfl⟩ := st.shapeI 0 rfl
    clear s5
    rw [HEL.out] at st ⊢

    generalize (gr ss).ports = P at *
    obtain ⟨T, hT⟩ : ∃ T : Nat → Bool, T = (fun p : Nat => !((gr ss).endOf p == (gr (putS ss q (exch ((gr ss).sig q)))).endOf p)) := ⟨_, rfl⟩
    have hcong := congrFun hT
    have hN2 := HN.out
    rw [← hT] at hN2
    have HN2 := Lib.hid hN2
    have HPK := Lib.hid hcong
    have HLE := Lib.hid (cntN_le T)
    clear hT hcong hN2
    generalize (gr ss).endsTo P = A at *
    generalize (gr (putS ss q (exch ((gr ss).sig q)))).endsTo P = B at *
    go_wp2_with fail
    go_loopw [6, 21] (fun v8 v9 wr => ∃ k : Nat, k ≤ P ∧ v9 = .int .i64 k ∧ v8 = .int .i64 (cntN T k : Nat) ∧ St w wr [SI (.slice a5 P c5) A, SI (.slice a4 P c4) B, SS (.slice a3 (putS ss q (exch ((gr ss).sig q))).length c3) (putS ss q (exch ((gr ss).sig q)))]) (fun _ v9 _ => P - (intOf v9).toNat)
    case atStart => exact ⟨0, Nat.zero_le _, rfl, rfl, st⟩
    case round =>
      clear st
      obtain ⟨k, hk, rfl, rfl, st⟩ := hrel
      have hcn := HLE.out k
      have hsu := cntN_succ T k
      rw [HPK.out k] at hsu
      by_cases hlt : k < P
      · obtain ⟨b1, f1, he, h1⟩ := st.cellAt 0 rfl (j := k) (by rw [HEL.out]; exact hlt)
        obtain ⟨b2, f2, he2, h2⟩ := st.cellAt 1 rfl (j := k) (by rw [HEL2.out]; exact hlt)
        cases he
        cases he2
        rw [HEG.out k hlt] at h1
        rw [HEG2.out k hlt] at h2
        have ST := Lib.hid st
        clear st
        generalize (gr ss).endOf k = x at *
        generalize (gr (putS ss q (exch ((gr ss).sig q)))).endOf k = y at *
        generalize cntN T k = Q at *
        by_cases e : x = y
        · subst e
          simp only [beq_self_eq_true, Bool.not_true, Bool.false_eq_true, if_false, Nat.add_zero] at hsu
          have HSU := Lib.hid hsu
          clear hsu
          go_wp2
          go_roundw
          case rel => exact ⟨k + 1, by omega, by go_num, by rw [HSU.out], ST.out⟩
          case measure => simp [intOf]; omega
        · have e1 : ((x : Int) != (y : Int)) = true := by rw [bne_iff_ne]; omega
          have e2 : ((y : Int) != (x : Int)) = true := by rw [bne_iff_ne]; omega
          simp only [e, beq_iff_eq, Bool.not_eq_true', beq_eq_false_iff_ne, ne_eq, not_false_eq_true, if_true] at hsu
          have HSU := Lib.hid hsu
          clear hsu e
          go_wp2
          go_roundw
          case rel => exact ⟨k + 1, by omega, by go_num, by rw [HSU.out]; go_num, ST.out⟩
          case measure => simp [intOf]; omega
      · obtain rfl : k = P := by omega
        have ST := Lib.hid st
        clear st hsu
        go_wp2
        go_ret2
        exact ⟨by rw [HL.out, HN2.out]; rfl, ST.out.below⟩

theorem sChangePairs_any (ao : Option Addr) (cap : Nat) (ss : List ByteArray) (c : Int) (w : World) (hx : CellsS w ao ss) (hm : ss.length ≤ maxLen) (hsz : ∀ s ∈ ss, s.size ≤ maxLen) :
    Calls Try.prog 29 #[.slice ao ss.length cap, .int .i64 c] w fun e w' => e = .returned (.tuple #[.int .i64 (chgL ss c), .bool (mirB ss c)]) ∧ Below w.heap.size w w' := by
  have HMI := Lib.hid (l4Mirror_any ao cap ss c w hx hm hsz)
  have HX := Lib.hid hx
  clear hx hsz
  cases hb : mirB ss c
  · have HB := Lib.hid hb
    have HL := Lib.hid (show chgL ss c = 0 by simp [chgL, hb])
    clear hb
    go_enter Try.func29, Try.ntmps29
    go_wp2_with fail
    refine HMI.out.mono ?_
    rintro e w2 ⟨rfl, hd⟩
    rw [HB.out]
    go_wp2
    go_ret2
    exact ⟨by rw [HL.out]; rfl, hd.below _⟩
  · obtain ⟨hg, q, rfl, hq, hmir⟩ := mirB_nat hb
    have HB := Lib.hid hb
    have HG := Lib.hid hg
    have HQ := Lib.hid hq
    have hok := gr_ok hg
    have hL : chgL ss q = (chgN (gr ss) (gr (putS ss q (exch ((gr ss).sig q)))) : Nat) := by simp [chgL, hb]
    have hg2 := putS_ok hg q (exch_let (hok.let' _ _ (Gr.row_lt hok hq) (Gr.col_lt hok q)))
    have HG2 : Hid (gridB (putS ss q (exch ((gr ss).sig q))) = true) := hg2
    have hpp : (gr (putS ss q (exch ((gr ss).sig q)))).ports = (gr ss).ports := putS_ports hg q _
    have HPP := Lib.hid hpp
    have hp20 := (Gr.ports_bd hok).2
    have HL := Lib.hid hL
    have HEL := Lib.hid (Gr.endsTo_length (gr ss) (gr ss).ports)
    have HEL2 := Lib.hid (Gr.endsTo_length (gr (putS ss q (exch ((gr ss).sig q)))) (gr ss).ports)
    have HEG : Hid (∀ p, p < (gr ss).ports → ((gr ss).endsTo (gr ss).ports).getD p 0 = _) := fun p hp => Gr.endsTo_getD hok hp
    have HEG2 : Hid (∀ p, p < (gr ss).ports → ((gr (putS ss q (exch ((gr ss).sig q)))).endsTo (gr ss).ports).getD p 0 = ((gr (putS ss q (exch ((gr ss).sig q)))).endOf p : Nat)) := fun p hp => Gr.endsTo_getD (gr_ok hg2) hp
    have HN : Hid (chgN (gr ss) (gr (putS ss q (exch ((gr ss).sig q)))) = cntN (fun p => !((gr ss).endOf p == (gr (putS ss q (exch ((gr ss).sig q)))).endOf p)) (gr ss).ports) := rfl
    clear hb hg hq hok hL hmir hg2 hpp
    go_enter Try.func29, Try.ntmps29
    go_wp2_with fail
    refine HMI.out.mono ?_
    rintro e w2 ⟨rfl, hd⟩
    rw [HB.out]
    have st := (St.init w).dr hd
    go_wp2_with fail
    refine (l2Pairs_any ao cap ss _ (st.oldS HX.out) HG.out).mono ?_
    rintro e w5 ⟨v5, rfl, s5⟩
    replace st := st.join s5
    obtain ⟨a5, c5, rfl⟩ := st.shapeI 0 rfl
    clear s5
    rw [HEL.out] at st ⊢
    go_wp2_with fail
    refine (l4Exchange_any ao cap ss q _ (st.oldS HX.out) HG.out HQ.out).mono ?_
    rintro e w3 ⟨v3, rfl, s3⟩
    replace st := st.join s3
    obtain ⟨a3, c3, rfl⟩ := st.shapeS 0 rfl
    clear s3
    go_wp2_with fail
    refine (l2Pairs_any a3 c3 _ _ (st.texts 0 rfl) HG2.out).mono ?_
    rintro e w4 ⟨v4, rfl, s4⟩
    rw [HPP.out] at s4
    replace st := st.join s4
    obtain ⟨a4, c4, rfl⟩ := st.shapeI 0 rfl
    clear s4
    rw [HEL2.out] at st ⊢

    generalize (gr ss).ports = P at *
    obtain ⟨T, hT⟩ : ∃ T : Nat → Bool, T = (fun p : Nat => !((gr ss).endOf p == (gr (putS ss q (exch ((gr ss).sig q)))).endOf p)) := ⟨_, rfl⟩
    have hcong := congrFun hT
    have hN2 := HN.out
    rw [← hT] at hN2
    have HN2 := Lib.hid hN2
    have HPK := Lib.hid hcong
    have HLE := Lib.hid (cntN_le T)
    clear hT hcong hN2
    generalize (gr ss).endsTo P = A at *
    generalize (gr (putS ss q (exch ((gr ss).sig q)))).endsTo P = B at *
    go_wp2_with fail
    go_loopw [8, 9] (fun v8 v9 wr => ∃ k : Nat, k ≤ P ∧ v9 = .int .i64 k ∧ v8 = .int .i64 (cntN T k : Nat) ∧ St w wr [SI (.slice a4 P c4) B, SS (.slice a3 (putS ss q (exch ((gr ss).sig q))).length c3) (putS ss q (exch ((gr ss).sig q))), SI (.slice a5 P c5) A]) (fun _ v9 _ => P - (intOf v9).toNat)
    case atStart => exact ⟨0, Nat.zero_le _, rfl, rfl, st⟩
    case round =>
      clear st
      obtain ⟨k, hk, rfl, rfl, st⟩ := hrel
      have hcn := HLE.out k
      have hsu := cntN_succ T k
      rw [HPK.out k] at hsu
      by_cases hlt : k < P
      · obtain ⟨b1, f1, he, h1⟩ := st.cellAt 2 rfl (j := k) (by rw [HEL.out]; exact hlt)
        obtain ⟨b2, f2, he2, h2⟩ := st.cellAt 0 rfl (j := k) (by rw [HEL2.out]; exact hlt)
        cases he
        cases he2
        rw [HEG.out k hlt] at h1
        rw [HEG2.out k hlt] at h2
        have ST := Lib.hid st
        clear st
        generalize (gr ss).endOf k = x at *
        generalize (gr (putS ss q (exch ((gr ss).sig q)))).endOf k = y at *
        generalize cntN T k = Q at *
        by_cases e : x = y
        · subst e
          simp only [beq_self_eq_true, Bool.not_true, Bool.false_eq_true, if_false, Nat.add_zero] at hsu
          have HSU := Lib.hid hsu
          clear hsu
          go_wp2
          go_quiet (fail)
          go_wp2
          go_roundw
          case rel => exact ⟨k + 1, by omega, by go_num, by rw [HSU.out], ST.out.dr ⟨_, rfl⟩⟩
          case measure => simp [intOf]; omega
        · have e1 : ((x : Int) != (y : Int)) = true := by rw [bne_iff_ne]; omega
          have e2 : ((y : Int) != (x : Int)) = true := by rw [bne_iff_ne]; omega
          simp only [e, beq_iff_eq, Bool.not_eq_true', beq_eq_false_iff_ne, ne_eq, not_false_eq_true, if_true] at hsu
          have HSU := Lib.hid hsu
          clear hsu e
          go_wp2
          go_quiet (fail)
          go_wp2
          go_roundw
          case rel => exact ⟨k + 1, by omega, by go_num, by rw [HSU.out]; go_num, ST.out.dr ⟨_, rfl⟩⟩
          case measure => simp [intOf]; omega
      · obtain rfl : k = P := by omega
        have ST := Lib.hid st
        clear st hsu
        go_wp2
        go_ret2
        exact ⟨by rw [HL.out, HN2.out]; rfl, ST.out.below⟩
end Go.Proofs.Ytcacbkcckfgkjaa
