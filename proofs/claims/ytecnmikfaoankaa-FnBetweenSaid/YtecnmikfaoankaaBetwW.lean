/- Contracts: how often two beams cross (l5Both, common, CrossBetween both). -/
import Derived.Test.YtecnmikfaoankaaSelfW
namespace Go.Proofs.Ytecnmikfaoankaa
open Go.RowKit
set_option linter.unusedVariables false
set_option linter.unusedSimpArgs false

theorem Gr.betwS_le (g : Gr) (p q k : Nat) : g.betwS p q k ≤ k * (g.wayI q).length := by
  refine sumN_bound fun i _ => ?_
  have := List.count_le_length (a := ((((g.wayI p).getD i 0).toNat : Nat) : Int)) (l := g.wayI q)
  split <;> omega

theorem l5Both_any (ao bo co : Option Addr) (ca cb cc : Nat) (ss : List ByteArray) (p q : Nat) (w : World) (hx : CellsS w ao ss) (hg : gridB ss = true) (hp : p < (gr ss).ports) (hq : q < (gr ss).ports)
    (hne : p ≠ q) (hne2 : (gr ss).endOf p ≠ q) (hy : CellsI w bo ((gr ss).wayI p)) (hz : CellsI w co ((gr ss).wayI q)) :
    Calls Try.prog 40 #[.slice ao ss.length ca, .slice bo ((gr ss).wayI p).length cb, .slice co ((gr ss).wayI q).length cc] w fun e w' => e = .returned (.int .i64 ((gr ss).betwN p q : Nat)) ∧ Dr w w' := by
  have hok := gr_ok hg
  have HR := Lib.hid (Gr.wayI_range hok hp)
  have hl := Gr.wayI_length hok hp
  have hl2 := Gr.wayI_length hok hq
  have HX := Lib.hid hx
  have HG := Lib.hid hg
  have HE := Lib.hid (Gr.betwS_eq hok hp hq hne hne2)
  have HB := Lib.hid fun k => Gr.betwS_le (gr ss) p q k
  have HS : Hid (∀ k, (gr ss).betwS p q (k + 1) = (gr ss).betwS p q k + _) := fun k => rfl
  have H0 : Hid ((gr ss).betwS p q 0 = 0) := rfl
  clear hx hg hp hok hq hne hne2
  generalize hL : (gr ss).wayI p = L at *
  generalize hM : (gr ss).wayI q = M at *
  clear hL hM
  go_enter Try.func40, Try.ntmps40
  go_wp2
  go_loopw [7, 8] (fun v5 v6 wr => ∃ k : Nat, k ≤ L.length ∧ v6 = .int .i64 k ∧ v5 = .int .i64 ((gr ss).betwS p q k : Nat) ∧ Dr w wr) (fun _ v6 _ => L.length - (intOf v6).toNat)
  case atStart => exact ⟨0, Nat.zero_le _, rfl, by rw [H0.out]; rfl, Dr.refl _⟩
  case round =>
    obtain ⟨k, hk, rfl, rfl, hdr⟩ := hrel
    have hbd := HB.out k
    have hkl : k * M.length ≤ 100 * 100 := Nat.mul_le_mul (by omega) hl2
    by_cases hlt : k < L.length
    · obtain ⟨c, hc1, hc2⟩ := HR.out k hlt
      obtain ⟨b, off, rfl, hc⟩ := hy.dr hdr k hlt
      have hs := HS.out k
      rw [hc1] at hc hs
      rw [Int.toNat_natCast] at hs
      have HC2 := Lib.hid hc2
      have hq := List.count_le_length (a := (c : Int)) (l := M)
      have HOF := Lib.hid fun W (h : CellsI W co M) => l2Often_any co cc M (c : Int) W h (by omega)
      have HCW := Lib.hid fun W (h : Dr w W) => hz.dr h
      generalize M.count (c : Int) = q at *
      clear hc1 hc2
      go_wp2_with fail
      refine (l2Cell_any ao ca ss c _ (HX.out.dr hdr) HG.out HC2.out).mono ?_
      rintro e w2 ⟨rfl, hd2⟩
      have hdr2 := hdr.trans hd2
      by_cases hsig : (gr ss).sig c = 46
      · rw [if_pos hsig] at hs
        have hsig2 : ((gr ss).sig c == 46) = true := by simp [hsig]
        have hc' : w2.cell? ⟨b, off + k, none⟩ = some (.int .i64 (c : Int)) := by
          obtain ⟨n, rfl⟩ := hd2
          exact hc
        have HS2 := Lib.hid hs
        clear hsig hs
        go_wp2_with fail
        refine (HOF.out _ (HCW.out _ hdr2)).mono ?_
        rintro e w3 ⟨rfl, rfl⟩
        go_wp2
        go_roundw
        case rel => exact ⟨k + 1, by omega, by go_num, by rw [HS2.out]; go_num, hdr2⟩
        case measure => simp [intOf]; omega
      · rw [if_neg hsig] at hs
        have hsig2 : ((gr ss).sig c == 46) = false := by simp [hsig]
        have HS2 := Lib.hid hs
        clear hsig hs
        go_wp2
        go_roundw
        case rel => exact ⟨k + 1, by omega, by go_num, by rw [HS2.out]; go_num, hdr2⟩
        case measure => simp [intOf]; omega
    · obtain rfl : k = L.length := by omega
      go_wp2
      go_ret
      exact ⟨by rw [← HE.out]; rfl, hdr⟩

/-- Two different ports that are not the ends of one beam. -/
noncomputable def betwB (ss : List ByteArray) (p q : Int) : Bool := wayB ss p && wayB ss q && !(p == q) && !(((gr ss).endOf p.toNat : Int) == q)
noncomputable def betwL (ss : List ByteArray) (p q : Int) : Int := if betwB ss p q = true then ((gr ss).betwN p.toNat q.toNat : Nat) else 0

theorem sCrossBetween_any (ao : Option Addr) (cap : Nat) (ss : List ByteArray) (p q : Int) (w : World) (hx : CellsS w ao ss) (hm : ss.length ≤ maxLen) (hsz : ∀ s ∈ ss, s.size ≤ maxLen) :
    Calls Try.prog 16 #[.slice ao ss.length cap, .int .i64 p, .int .i64 q] w fun e w' => e = .returned (.tuple #[.int .i64 (betwL ss p q), .bool (betwB ss p q)]) ∧ Below w.heap.size w w' := by
  have HGP := Lib.hid (l2Given_any ao cap ss p w hx hm hsz)
  have HGQ := Lib.hid fun W (hxx : CellsS W ao ss) => l2Given_any ao cap ss q W hxx hm hsz
  have HX := Lib.hid hx
  cases hb1 : wayB ss p
  · have HB := Lib.hid (show (gridB ss && inB p 0 ((gr ss).ports - 1)) = false from hb1)
    have HF := Lib.hid (show betwB ss p q = false by simp [betwB, hb1])
    have HL := Lib.hid (show betwL ss p q = 0 by simp [betwL, betwB, hb1])
    clear hb1 hx hsz
    go_enter Try.func16, Try.ntmps16
    go_wp2_with fail
    refine HGP.out.mono ?_
    rintro e w2 ⟨rfl, hd⟩
    rw [HB.out]
    go_wp2
    go_ret2
    exact ⟨by rw [HL.out, HF.out]; rfl, hd.below _⟩
  · have HB := Lib.hid (show (gridB ss && inB p 0 ((gr ss).ports - 1)) = true from hb1)
    cases hb2 : wayB ss q
    · have HB2 := Lib.hid (show (gridB ss && inB q 0 ((gr ss).ports - 1)) = false from hb2)
      have HF := Lib.hid (show betwB ss p q = false by simp [betwB, hb2])
      have HL := Lib.hid (show betwL ss p q = 0 by simp [betwL, betwB, hb2])
      clear hb1 hb2 hx hsz
      go_enter Try.func16, Try.ntmps16
      go_wp2_with fail
      refine HGP.out.mono ?_
      rintro e w2 ⟨rfl, hd⟩
      rw [HB.out]
      go_wp2_with fail
      refine (HGQ.out _ (HX.out.dr hd)).mono ?_
      rintro e w3 ⟨rfl, hd3⟩
      rw [HB2.out]
      go_wp2
      go_ret2
      exact ⟨by rw [HL.out, HF.out]; rfl, (hd.trans hd3).below _⟩
    · have HB2 := Lib.hid (show (gridB ss && inB q 0 ((gr ss).ports - 1)) = true from hb2)
      obtain ⟨hg, p, rfl, hp⟩ := wayB_nat hb1
      obtain ⟨_, q, rfl, hq⟩ := wayB_nat hb2
      have HG := Lib.hid hg
      obtain ⟨K, y, hB⟩ := Gr.beam_of (gr_ok hg) hp
      obtain ⟨K', y', hB'⟩ := Gr.beam_of (gr_ok hg) hq
      have HW := Lib.hid (show (gr ss).cellsTo ((gr ss).ent p) (K + 1) = (gr ss).wayI p by rw [Gr.wayI, Gr.lenOf_eq hB])
      have HW' := Lib.hid (show (gr ss).cellsTo ((gr ss).ent q) (K' + 1) = (gr ss).wayI q by rw [Gr.wayI, Gr.lenOf_eq hB'])
      have HE := Lib.hid (Gr.endOf_eq hB)
      have HP := Lib.hid hp
      have HQ := Lib.hid hq
      have HBM := Lib.hid hB
      have HBM' := Lib.hid hB'
      have hF : betwB ss p q = (!((p : Int) == q) && !(((gr ss).endOf p : Int) == q)) := by simp [betwB, hb1, hb2]
      have hL : betwL ss p q = if betwB ss p q = true then (((gr ss).betwN p q : Nat) : Int) else 0 := by simp [betwL]
      rw [hF] at hL ⊢
      rw [hL]
      clear hb1 hb2 hx hsz hB hB' hg hF hL hp hq
      go_enter Try.func16, Try.ntmps16
      go_wp2_with fail
      refine HGP.out.mono ?_
      rintro e w2 ⟨rfl, hd⟩
      rw [HB.out]
      go_wp2_with fail
      refine (HGQ.out _ (HX.out.dr hd)).mono ?_
      rintro e w3 ⟨rfl, hd3⟩
      rw [HB2.out]
      have st := ((St.init w).dr hd).dr hd3
      go_wp2_with fail
      refine (l2Way_any ao cap ss p K y _ (st.oldS HX.out) HG.out HP.out HBM.out).mono ?_
      rintro e w4 ⟨v1, v2, rfl, s3⟩
      rw [HW.out] at s3
      replace st := (st.join s3).drop0
      obtain ⟨a1, c1, rfl⟩ := st.shapeI 0 rfl
      clear s3
      go_wp2_with fail
      refine (l2Way_any ao cap ss q K' y' _ (st.oldS HX.out) HG.out HQ.out HBM'.out).mono ?_
      rintro e w5 ⟨v3, v4, rfl, s3⟩
      rw [HW'.out] at s3
      replace st := (st.join s3).drop0
      obtain ⟨a2, c2, rfl⟩ := st.shapeI 0 rfl
      clear s3 hd hd3
      rw [← HE.out]
      by_cases e1 : p = q
      · have h1 : ((p : Int) == (q : Int)) = true := by simp [e1]
        clear e1
        go_wp2
        all_goals
          go_ret2
          exact ⟨rfl, st.below⟩
      · have h1 : ((p : Int) == (q : Int)) = false := by rw [beq_eq_false_iff_ne]; omega
        by_cases e2 : (gr ss).endOf p = q
        · have h2 : (((gr ss).endOf p : Int) == (q : Int)) = true := by simp [e2]
          clear e1 e2
          go_wp2
          all_goals
            go_ret2
            exact ⟨rfl, st.below⟩
        · have h2 : (((gr ss).endOf p : Int) == (q : Int)) = false := by rw [beq_eq_false_iff_ne]; omega
          have HB := Lib.hid (fun W (h1 : CellsS W ao ss) (h2 : CellsI W a1 _) (h3 : CellsI W a2 _) => l5Both_any ao a1 a2 cap c1 c2 ss p q W h1 HG.out HP.out HQ.out e1 e2 h2 h3)
          clear e1 e2
          go_wp2_with fail
          refine (HB.out _ (st.oldS HX.out) (st.cells 1 rfl) (st.cells 0 rfl)).mono ?_
          rintro e w6 ⟨rfl, hd6⟩
          replace st := st.dr hd6
          go_wp2
          all_goals
            go_ret2
            exact ⟨rfl, st.below⟩

theorem isDot_any (c : Int) (w : World) : Calls Try.prog 42 #[.int .u8 c] w fun e w' => e = .returned (.bool (c == 46)) ∧ w = w' := by
  go_enter Try.func42, Try.ntmps42
  go_wp2
  go_ret
  exact ⟨rfl, rfl⟩

set_option maxHeartbeats 1000000 in
theorem common_any (ao : Option Addr) (cap : Nat) (ss : List ByteArray) (p q : Int) (w : World) (hx : CellsS w ao ss) (hm : ss.length ≤ maxLen) (hsz : ∀ s ∈ ss, s.size ≤ maxLen) :
    Calls Try.prog 41 #[.slice ao ss.length cap, .int .i64 p, .int .i64 q, .func (.func 42) #[] #[]] w fun e w' => e = .returned (.tuple #[.int .i64 (betwL ss p q), .bool (betwB ss p q)]) ∧ Below w.heap.size w w' := by
  have HGP := Lib.hid (portOk_any ao cap ss p w hx hm hsz)
  have HGQ := Lib.hid (portOk_any ao cap ss q w hx hm hsz)
  have HX := Lib.hid hx
  cases hb1 : wayB ss p
  · have HB := Lib.hid (show (gridB ss && inB p 0 ((gr ss).ports - 1)) = false from hb1)
    have HF := Lib.hid (show betwB ss p q = false by simp [betwB, hb1])
    have HL := Lib.hid (show betwL ss p q = 0 by simp [betwL, betwB, hb1])
    clear hb1 hx hsz
    go_enter Try.func41, Try.ntmps41
    go_wp2_with fail
    refine HGP.out.mono ?_
    rintro e w2 ⟨rfl, rfl⟩
    rw [HB.out]
    go_wp2
    go_ret2
    exact ⟨by rw [HL.out, HF.out]; rfl, Below.refl _ _⟩
  · have HB := Lib.hid (show (gridB ss && inB p 0 ((gr ss).ports - 1)) = true from hb1)
    cases hb2 : wayB ss q
    · have HB2 := Lib.hid (show (gridB ss && inB q 0 ((gr ss).ports - 1)) = false from hb2)
      have HF := Lib.hid (show betwB ss p q = false by simp [betwB, hb2])
      have HL := Lib.hid (show betwL ss p q = 0 by simp [betwL, betwB, hb2])
      clear hb1 hb2 hx hsz
      go_enter Try.func41, Try.ntmps41
      go_wp2_with fail
      refine HGP.out.mono ?_
      rintro e w2 ⟨rfl, rfl⟩
      rw [HB.out]
      go_wp2_with fail
      refine HGQ.out.mono ?_
      rintro e w3 ⟨rfl, rfl⟩
      rw [HB2.out]
      go_wp2
      go_ret2
      exact ⟨by rw [HL.out, HF.out]; rfl, Below.refl _ _⟩
    · have HB2 := Lib.hid (show (gridB ss && inB q 0 ((gr ss).ports - 1)) = true from hb2)
      obtain ⟨hg, p, rfl, hp⟩ := wayB_nat hb1
      obtain ⟨_, q, rfl, hq⟩ := wayB_nat hb2
      have HG := Lib.hid hg
      have hok := gr_ok hg
      obtain ⟨K, y, hB⟩ := Gr.beam_of hok hp
      obtain ⟨K', y', hB'⟩ := Gr.beam_of hok hq
      have HW := Lib.hid (show ((gr ss).wayTo ((gr ss).ent p) (K + 1)).map (fun y => (y.1 : Int)) = (gr ss).wayI p by rw [Gr.wayI, Gr.lenOf_eq hB]; rfl)
      have HW' := Lib.hid (show ((gr ss).wayTo ((gr ss).ent q) (K' + 1)).map (fun y => (y.1 : Int)) = (gr ss).wayI q by rw [Gr.wayI, Gr.lenOf_eq hB']; rfl)
      have HE := Lib.hid (Gr.endOf_eq hB)
      have HBM := Lib.hid fun W (h : CellsS W ao ss) => beam_any ao cap ss p K y W h hg hp hB
      have HBM' := Lib.hid fun W (h : CellsS W ao ss) => beam_any ao cap ss q K' y' W h hg hq hB'
      have hK := hB.lt
      have hK' := hB'.lt
      have HLE := Lib.hid (Gr.wayTo_length (gr ss) ((gr ss).ent p) (K + 1))
      have HLE' := Lib.hid (Gr.wayTo_length (gr ss) ((gr ss).ent q) (K' + 1))
      have hF : betwB ss p q = (!((p : Int) == q) && !(((gr ss).endOf p : Int) == q)) := by simp [betwB, hb1, hb2]
      have hL : betwL ss p q = if betwB ss p q = true then (((gr ss).betwN p q : Nat) : Int) else 0 := by simp [betwL]
      rw [hF] at hL ⊢
      rw [hL]
      have hlen := Gr.wayI_length hok hp
      have hlen' := Gr.wayI_length hok hq
      have HR := Lib.hid (Gr.wayI_range hok hp)
      have HR' := Lib.hid (Gr.wayI_range hok hq)
      have h25 : (gr ss).n * (gr ss).m ≤ 25 := Gr.size_le hok
      have HLA := Lib.hid fun c (h : c < (gr ss).n * (gr ss).m) (W : World) (hxx : CellsS W ao ss) => letterAt_any ao cap ss c W hxx hg h
      clear hb1 hb2 hx hsz hB hB' hg hF hL hp hq hok
      go_enter Try.func41, Try.ntmps41
      go_wp2_with fail
      refine HGP.out.mono ?_
      rintro e w2 ⟨rfl, rfl⟩
      rw [HB.out]
      go_wp2_with fail
      refine HGQ.out.mono ?_
      rintro e w3 ⟨rfl, rfl⟩
      rw [HB2.out]
      have st := St.init w
      by_cases e1 : p = q
      · have h1 : ((p : Int) == (q : Int)) = true := by simp [e1]
        clear e1
        go_wp2
        all_goals
          go_ret2
          exact ⟨rfl, st.below⟩
      · have h1 : ((p : Int) == (q : Int)) = false := by rw [beq_eq_false_iff_ne]; omega
        clear e1
        go_wp2_with fail
        refine (HBM.out _ (st.oldS HX.out)).mono ?_
        rintro e w4 ⟨v1, rfl, o, b⟩
        replace st := st.addSeg o b
        obtain ⟨a1, c1, rfl, _⟩ := SStt_shape o
        clear o b
        go_wp2_with fail
        refine (HBM'.out _ (st.oldS HX.out)).mono ?_
        rintro e w5 ⟨v2, rfl, o, b⟩
        replace st := st.addSeg o b
        obtain ⟨a2, c2, rfl, _⟩ := SStt_shape o
        clear o b
        rw [← HE.out]
        by_cases e2 : (gr ss).endOf p = q
        · have h2 : (((gr ss).endOf p : Int) == (q : Int)) = true := by simp [e2]
          clear e2
          go_wp2
          all_goals
            go_ret2
            exact ⟨rfl, st.below⟩
        · have h2 : (((gr ss).endOf p : Int) == (q : Int)) = false := by rw [beq_eq_false_iff_ne]; omega
          clear e2
          go_wp2_with fail
          refine (cellsOf_any a1 c1 _ _ (SStt_cells (st.own _ (List.mem_cons_of_mem _ List.mem_cons_self))) (by rw [HLE.out]; omega)).mono ?_
          rintro e w6 ⟨v, rfl, s3⟩
          rw [HW.out] at s3
          replace st := st.join s3
          obtain ⟨a3, c3, rfl⟩ := st.shapeI0
          clear s3
          go_wp2_with fail
          refine (timesIn_any ao a3 cap c3 ss _ _ (st.oldS HX.out) HG.out (st.cells 0 rfl) (by omega) HR.out).mono ?_
          rintro e w7 ⟨g1, c4, rfl, s3⟩
          replace st := (st.join s3).drop1
          clear s3
          go_wp2_with fail
          refine (cellsOf_any a2 c2 _ _ (SStt_cells (st.own _ (List.mem_cons_of_mem _ List.mem_cons_self))) (by rw [HLE'.out]; omega)).mono ?_
          rintro e w8 ⟨v, rfl, s3⟩
          rw [HW'.out] at s3
          replace st := st.join s3
          obtain ⟨a5, c5, rfl⟩ := st.shapeI0
          clear s3
          go_wp2_with fail
          refine (timesIn_any ao a5 cap c5 ss _ _ (st.oldS HX.out) HG.out (st.cells 0 rfl) (by omega) HR'.out).mono ?_
          rintro e w9 ⟨g2, c6, rfl, s3⟩
          replace st := (st.join s3).drop1
          clear s3
          obtain ⟨P, hP⟩ : ∃ P : Nat → Bool, P = (fun c : Nat => decide (0 < ((gr ss).wayI p).count (c : Int)) && decide (0 < ((gr ss).wayI q).count (c : Int)) && (gr ss).sig c == 46) := ⟨_, rfl⟩
          have HSN : Hid ((gr ss).betwN p q = cntN P ((gr ss).n * (gr ss).m)) := by rw [hP]; rfl
          have HPK := Lib.hid (congrFun hP)
          have HLE := Lib.hid (cntN_le P)
          clear hP
          replace st : St w w9 [SI (.slice (some ⟨g2, 0, none⟩) ((gr ss).n * (gr ss).m) c6) (timesL ((gr ss).n * (gr ss).m) ((gr ss).wayI q)), SI (.slice (some ⟨g1, 0, none⟩) ((gr ss).n * (gr ss).m) c4) (timesL ((gr ss).n * (gr ss).m) ((gr ss).wayI p))] := ⟨st.below, fun s hs => st.own s (by simp only [List.mem_cons, List.not_mem_nil, or_false] at hs ⊢; rcases hs with h | h <;> simp [h]), List.Pairwise.sublist (List.Sublist.cons_cons _ (List.Sublist.cons_cons _ (List.nil_sublist _))) st.apart⟩
          generalize (gr ss).wayI p = L at *
          generalize (gr ss).wayI q = M at *
          generalize hN : (gr ss).n * (gr ss).m = N at *
          clear hN
          go_wp2_with fail
          go_loopw [16, 58] (fun v8 v23 wr => ∃ k : Nat, k ≤ N ∧ v23 = .int .i64 k ∧ v8 = .int .i64 (cntN P k : Nat) ∧ St w wr [SI (.slice (some ⟨g2, 0, none⟩) N c6) (timesL N M), SI (.slice (some ⟨g1, 0, none⟩) N c4) (timesL N L)]) (fun _ v23 _ => N - (intOf v23).toNat)
          case atStart => exact ⟨0, Nat.zero_le _, rfl, rfl, st⟩
          case round =>
            clear st
            obtain ⟨k, hk, rfl, rfl, st⟩ := hrel
            have hcn := HLE.out k
            have hsu := cntN_succ P k
            rw [HPK.out k] at hsu
            by_cases hlt : k < N
            · obtain ⟨bb, off2, he, hcc⟩ := st.cellAt 1 rfl (j := k) (by rw [timesL_length]; exact hlt)
              cases he
              rw [timesL_getD L hlt, Nat.zero_add] at hcc
              obtain ⟨bb, off2, he, hcd⟩ := st.cellAt 0 rfl (j := k) (by rw [timesL_length]; exact hlt)
              cases he
              rw [timesL_getD M hlt, Nat.zero_add] at hcd
              have HLK := Lib.hid (HLA.out k hlt wr (HX.out.below st.below (Nat.le_refl _)))
              have ST2 := Lib.hid st
              clear st
              generalize L.count (k : Int) = x at *
              generalize M.count (k : Int) = z at *
              generalize cntN P k = Q at *
              by_cases h3 : 0 < x
              · by_cases h4 : 0 < z
                · cases hsig : (gr ss).sig k == 46
                  all_goals
                    rw [hsig] at hsu
                    simp only [h3, h4, decide_true, Bool.and_true, Bool.and_false, Bool.false_eq_true, if_true, if_false, Nat.add_zero] at hsu
                    have HSU := Lib.hid hsu
                    have HSG := Lib.hid hsig
                    clear hsig hsu
                    go_wp2_with fail
                    refine HLK.out.mono ?_
                    rintro e w10 ⟨rfl, hd⟩
                    go_wp2_with fail
                    refine (isDot_any _ _).mono ?_
                    rintro e w11 ⟨rfl, rfl⟩
                    rw [HSG.out]
                    go_wp2
                    go_roundw
                    case rel => exact ⟨k + 1, by omega, by go_num, by rw [HSU.out] <;> go_num, ST2.out.dr hd⟩
                    case measure => simp [intOf]; omega
                · simp only [h3, h4, decide_false, Bool.and_false, Bool.false_and, Bool.false_eq_true, if_false, Nat.add_zero] at hsu
                  have HSU := Lib.hid hsu
                  clear hsu
                  go_wp2
                  go_roundw
                  case rel => exact ⟨k + 1, by omega, by go_num, by rw [HSU.out], ST2.out⟩
                  case measure => simp [intOf]; omega
              · simp only [h3, decide_false, Bool.false_and, Bool.false_eq_true, if_false, Nat.add_zero] at hsu
                have HSU := Lib.hid hsu
                clear hsu
                go_wp2
                go_roundw
                case rel => exact ⟨k + 1, by omega, by go_num, by rw [HSU.out], ST2.out⟩
                case measure => simp [intOf]; omega
            · obtain rfl : k = N := by omega
              have ST2 := Lib.hid st
              clear st hsu
              go_wp2
              all_goals
                go_ret2
                exact ⟨by rw [HSN.out]; rfl, ST2.out.below⟩

theorem iCrossBetween_any (ao : Option Addr) (cap : Nat) (ss : List ByteArray) (p q : Int) (w : World) (hx : CellsS w ao ss) (hm : ss.length ≤ maxLen) (hsz : ∀ s ∈ ss, s.size ≤ maxLen) :
    Calls Try.prog 17 #[.slice ao ss.length cap, .int .i64 p, .int .i64 q] w fun e w' => e = .returned (.tuple #[.int .i64 (betwL ss p q), .bool (betwB ss p q)]) ∧ Below w.heap.size w w' := by
  have HC := Lib.hid (common_any ao cap ss p q w hx hm hsz)
  clear hx hsz
  go_enter Try.func17, Try.ntmps17
  go_wp2_with fail
  refine HC.out.mono ?_
  rintro e w2 ⟨rfl, b⟩
  go_wp2
  go_ret2
  exact ⟨rfl, b⟩
end Go.Proofs.Ytecnmikfaoankaa
