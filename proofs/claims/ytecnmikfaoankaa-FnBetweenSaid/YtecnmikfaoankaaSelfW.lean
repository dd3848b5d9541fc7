/- Contracts: how often a beam crosses itself (l5Self, CrossSelf both). -/
import Derived.Test.YtecnmikfaoankaaWaysL
import Derived.Test.YtecnmikfaoankaaTimesW
namespace Go.Proofs.Ytecnmikfaoankaa
open Go.RowKit
set_option linter.unusedVariables false
set_option linter.unusedSimpArgs false

theorem Gr.selfS_le (g : Gr) (p k : Nat) : g.selfS p k ≤ k * (g.wayI p).length := by
  refine sumN_bound fun i _ => ?_
  have := List.count_le_length (a := ((((g.wayI p).getD i 0).toNat : Nat) : Int)) (l := g.wayI p)
  split <;> omega

theorem l5Self_any (ao bo : Option Addr) (ca cb : Nat) (ss : List ByteArray) (p : Nat) (w : World) (hx : CellsS w ao ss) (hg : gridB ss = true) (hp : p < (gr ss).ports) (hy : CellsI w bo ((gr ss).wayI p)) :
    Calls Try.prog 36 #[.slice ao ss.length ca, .slice bo ((gr ss).wayI p).length cb] w fun e w' => e = .returned (.int .i64 ((gr ss).selfN p : Nat)) ∧ Dr w w' := by
  have hok := gr_ok hg
  have HR := Lib.hid (Gr.wayI_range hok hp)
  have hl := Gr.wayI_length hok hp
  have HX := Lib.hid hx
  have HG := Lib.hid hg
  have HE := Lib.hid (Gr.selfS_eq hok hp)
  have HB := Lib.hid fun k => Gr.selfS_le (gr ss) p k
  have HS : Hid (∀ k, (gr ss).selfS p (k + 1) = (gr ss).selfS p k + _) := fun k => rfl
  have H0 : Hid ((gr ss).selfS p 0 = 0) := rfl
  clear hx hg hp hok
  generalize hL : (gr ss).wayI p = L at *
  clear hL
  go_enter Try.func36, Try.ntmps36
  go_wp2
  go_loopw [5, 6] (fun v5 v6 wr => ∃ k : Nat, k ≤ L.length ∧ v6 = .int .i64 k ∧ v5 = .int .i64 ((gr ss).selfS p k : Nat) ∧ Dr w wr) (fun _ v6 _ => L.length - (intOf v6).toNat)
  case atStart => exact ⟨0, Nat.zero_le _, rfl, by rw [H0.out]; rfl, Dr.refl _⟩
  case round =>
    obtain ⟨k, hk, rfl, rfl, hdr⟩ := hrel
    have hbd := HB.out k
    have hkl : k * L.length ≤ 100 * 100 := Nat.mul_le_mul (by omega) hl
    by_cases hlt : k < L.length
    · obtain ⟨c, hc1, hc2⟩ := HR.out k hlt
      obtain ⟨b, off, rfl, hc⟩ := hy.dr hdr k hlt
      have hs := HS.out k
      rw [hc1] at hc hs
      rw [Int.toNat_natCast] at hs
      have HC2 := Lib.hid hc2
      have hq := List.count_le_length (a := (c : Int)) (l := L)
      have hq0 : 1 ≤ L.count (c : Int) := List.one_le_count_iff.2 (by
        rw [← hc1]
        simp [hlt])
      have HOF := Lib.hid fun W (h : CellsI W (some ⟨b, off, none⟩) L) => l2Often_any (some ⟨b, off, none⟩) cb L (c : Int) W h (by omega)
      have HCW := Lib.hid fun W (h : Dr w W) => hy.dr h
      generalize L.count (c : Int) = q at *
      clear hc1 hc2
      go_wp2_with fail
      refine (l2Cell_any ao ca ss c _ (HX.out.dr hdr) HG.out HC2.out).mono ?_
      rintro e w2 ⟨rfl, hd2⟩
      have hdr2 := hdr.trans hd2
      by_cases hsig : (gr ss).sig c = 46
      · rw [if_pos hsig] at hs
        have hsig2 : ((gr ss).sig c == 46) = true := by simp [hsig]
        have hc' : w2.cell? ⟨b, off + k, none⟩ = some (.int .i64 (c : Int)) := by
          obtain ⟨n, rfl⟩ := hd2
          exact hc
        have HS2 := Lib.hid hs
        clear hsig hs
        go_wp2_with fail
        refine (HOF.out _ (HCW.out _ hdr2)).mono ?_
        rintro e w3 ⟨rfl, rfl⟩
        go_wp2
        go_roundw
        case rel => exact ⟨k + 1, by omega, by go_num, by rw [HS2.out]; go_num, hdr2⟩
        case measure => simp [intOf]; omega
      · rw [if_neg hsig] at hs
        have hsig2 : ((gr ss).sig c == 46) = false := by simp [hsig]
        have HS2 := Lib.hid hs
        clear hsig hs
        go_wp2
        go_roundw
        case rel => exact ⟨k + 1, by omega, by go_num, by rw [HS2.out]; go_num, hdr2⟩
        case measure => simp [intOf]; omega
    · obtain rfl : k = L.length := by omega
      have hE := HE.out
      have HQ : Hid (((gr ss).selfS p L.length : Int) / 2 = ((gr ss).selfN p : Nat)) := by
        show _ = _
        omega
      go_wp2
      go_ret
      exact ⟨by rw [← HQ.out]; rfl, hdr⟩

/-- What CrossSelf tells. -/
noncomputable def selfL (ss : List ByteArray) (p : Int) : Int := if wayB ss p = true then ((gr ss).selfN p.toNat : Nat) else 0
theorem sCrossSelf_any (ao : Option Addr) (cap : Nat) (ss : List ByteArray) (p : Int) (w : World) (hx : CellsS w ao ss) (hm : ss.length ≤ maxLen) (hsz : ∀ s ∈ ss, s.size ≤ maxLen) :
    Calls Try.prog 12 #[.slice ao ss.length cap, .int .i64 p] w fun e w' => e = .returned (.tuple #[.int .i64 (selfL ss p), .bool (wayB ss p)]) ∧ Below w.heap.size w w' := by
  have HGI := Lib.hid (l2Given_any ao cap ss p w hx hm hsz)
  cases hb : wayB ss p
  · have HB := Lib.hid (show (gridB ss && inB p 0 ((gr ss).ports - 1)) = false from hb)
    have HL := Lib.hid (show selfL ss p = 0 by simp [selfL, hb])
    clear hb hx hsz
    go_enter Try.func12, Try.ntmps12
    go_wp2_with fail
    refine HGI.out.mono ?_
    rintro e w2 ⟨rfl, hd⟩
    rw [HB.out]
    go_wp2
    go_ret2
    exact ⟨by rw [HL.out]; rfl, hd.below _⟩
  · obtain ⟨hg, q, rfl, hq⟩ := wayB_nat hb
    have HB := Lib.hid (show (gridB ss && inB q 0 ((gr ss).ports - 1)) = true from hb)
    have HG := Lib.hid hg
    obtain ⟨K, y, hB⟩ := Gr.beam_of (gr_ok hg) hq
    have hL : selfL ss q = ((gr ss).selfN q : Nat) := by simp [selfL, hb]
    have hW : (gr ss).cellsTo ((gr ss).ent q) (K + 1) = (gr ss).wayI q := by rw [Gr.wayI, Gr.lenOf_eq hB]
    have HL := Lib.hid hL
    have HW := Lib.hid hW
    have HX := Lib.hid hx
    have HQ := Lib.hid hq
    have HBM := Lib.hid hB
    clear hb hx hsz hB hg hL hW
    go_enter Try.func12, Try.ntmps12
    go_wp2_with fail
    refine HGI.out.mono ?_
    rintro e w2 ⟨rfl, hd⟩
    rw [HB.out]
    go_wp2_with fail
    refine (l2Way_any ao cap ss q K y w2 (HX.out.dr hd) HG.out HQ.out HBM.out).mono ?_
    rintro e w3 ⟨v1, v2, rfl, s3⟩
    rw [HW.out] at s3
    have st := ((St.init w).dr hd).join s3
    obtain ⟨a1, c1, rfl⟩ := st.shapeI 1 rfl
    obtain ⟨a2, c2, rfl⟩ := st.shapeI 0 rfl
    have ST := Lib.hid st
    clear st s3
    go_wp2_with fail
    refine (l5Self_any ao a1 cap c1 ss q _ (HX.out.below ST.out.below (Nat.le_refl _)) HG.out HQ.out (ST.out.cells 1 rfl)).mono ?_
    rintro e w4 ⟨rfl, hd4⟩
    go_wp2
    go_ret2
    exact ⟨by rw [HL.out]; rfl, (ST.out.dr hd4).below⟩

theorem iCrossSelf_any (ao : Option Addr) (cap : Nat) (ss : List ByteArray) (p : Int) (w : World) (hx : CellsS w ao ss) (hm : ss.length ≤ maxLen) (hsz : ∀ s ∈ ss, s.size ≤ maxLen) :
    Calls Try.prog 14 #[.slice ao ss.length cap, .int .i64 p] w fun e w' => e = .returned (.tuple #[.int .i64 (selfL ss p), .bool (wayB ss p)]) ∧ Below w.heap.size w w' := by
  have HGI := Lib.hid (iBeamWay_any ao cap ss p w hx hm hsz)
  cases hb : wayB ss p
  · have HB := Lib.hid hb
    have HL := Lib.hid (show selfL ss p = 0 by simp [selfL, hb])
    clear hb hx hsz
    go_enter Try.func14, Try.ntmps14
    go_wp2_with fail
    refine HGI.out.mono ?_
    rintro e w2 ⟨v, rfl, st⟩
    rw [HB.out]
    have ST := Lib.hid st
    clear st
    go_wp2
    go_ret2
    exact ⟨by rw [HL.out]; rfl, ST.out.below⟩
  · obtain ⟨hg, q, rfl, hq⟩ := wayB_nat hb
    have HB := Lib.hid hb
    have HG := Lib.hid hg
    have hok := gr_ok hg
    have hL : selfL ss q = ((gr ss).selfN q : Nat) := by simp [selfL, hb]
    have hW : wayL ss q = (gr ss).wayI q := by simp [wayL, hb]
    have HL := Lib.hid hL
    have HW := Lib.hid hW
    have HX := Lib.hid hx
    have h25 : (gr ss).n * (gr ss).m ≤ 25 := Gr.size_le hok
    have hlen := Gr.wayI_length hok hq
    have HR := Lib.hid (Gr.wayI_range hok hq)
    have HSN : Hid ((gr ss).selfN q = cntN (fun c => ((gr ss).wayI q).count (c : Int) == 2 && (gr ss).sig c == 46) ((gr ss).n * (gr ss).m)) := rfl
    have HLE := Lib.hid (cntN_le (fun c => ((gr ss).wayI q).count (c : Int) == 2 && (gr ss).sig c == 46))
    have HLA := Lib.hid fun c (h : c < (gr ss).n * (gr ss).m) (W : World) (hxx : CellsS W ao ss) => letterAt_any ao cap ss c W hxx hg h
    clear hb hx hsz hg hL hW hok
    go_enter Try.func14, Try.ntmps14
    go_wp2_with fail
    refine HGI.out.mono ?_
    rintro e w2 ⟨v, rfl, st⟩
    rw [HW.out] at st
    rw [HB.out]
    obtain ⟨a1, c1, rfl⟩ := st.shapeI0
    have ST := Lib.hid st
    clear st
    go_wp2_with fail
    refine (timesIn_any ao a1 cap c1 ss _ _ (HX.out.below ST.out.below (Nat.le_refl _)) HG.out (ST.out.cells 0 rfl) (by omega) HR.out).mono ?_
    rintro e w3 ⟨g, c3, rfl, s3⟩
    have st := ST.out.join s3
    clear s3
    generalize (gr ss).wayI q = L at *
    generalize hN : (gr ss).n * (gr ss).m = N at *
    clear hN
    go_wp2_with fail
    go_loopw [8, 23] (fun v8 v23 wr => ∃ k : Nat, k ≤ N ∧ v23 = .int .i64 k ∧ v8 = .int .i64 (cntN (fun c => L.count (c : Int) == 2 && (gr ss).sig c == 46) k : Nat) ∧ St w wr [SI (.slice (some ⟨g, 0, none⟩) N c3) (timesL N L), SI (.slice a1 L.length c1) L]) (fun _ v23 _ => N - (intOf v23).toNat)
    case atStart => exact ⟨0, Nat.zero_le _, rfl, rfl, st⟩
    case round =>
      clear st
      obtain ⟨k, hk, rfl, rfl, st⟩ := hrel
      have hcn := HLE.out k
      have hsu := cntN_succ (fun c => L.count (c : Int) == 2 && (gr ss).sig c == 46) k
      by_cases hlt : k < N
      · obtain ⟨bb, off2, he, hcc⟩ := st.cellAt 0 rfl (j := k) (by rw [timesL_length]; exact hlt)
        cases he
        rw [timesL_getD L hlt, Nat.zero_add] at hcc
        have HLK := Lib.hid (HLA.out k hlt wr (HX.out.below st.below (Nat.le_refl _)))
        have ST2 := Lib.hid st
        clear st
        generalize L.count (k : Int) = q2 at *
        generalize cntN (fun c => L.count (c : Int) == 2 && (gr ss).sig c == 46) k = M at *
        by_cases h2 : q2 = 2
        · subst h2
          by_cases hsig : (gr ss).sig k = 46
          · have hs2 : ((gr ss).sig k == 46) = true := by simp [hsig]
            rw [hs2] at hsu
            simp only [Bool.and_true, beq_self_eq_true, if_true] at hsu
            have HSU := Lib.hid hsu
            clear hsig hsu
            go_wp2_with fail
            refine HLK.out.mono ?_
            rintro e w4 ⟨rfl, hd⟩
            go_wp2
            go_roundw
            case rel => exact ⟨k + 1, by omega, by go_num, by rw [HSU.out]; go_num, ST2.out.dr hd⟩
            case measure => simp [intOf]; omega
          · have hs2 : ((gr ss).sig k == 46) = false := by simp [hsig]
            rw [hs2] at hsu
            simp only [Bool.and_false, Bool.false_eq_true, if_false, Nat.add_zero] at hsu
            have HSU := Lib.hid hsu
            clear hsig hsu
            go_wp2_with fail
            refine HLK.out.mono ?_
            rintro e w4 ⟨rfl, hd⟩
            go_wp2
            go_roundw
            case rel => exact ⟨k + 1, by omega, by go_num, by rw [HSU.out], ST2.out.dr hd⟩
            case measure => simp [intOf]; omega
        · have h3 : (q2 == 2) = false := by simp [h2]
          have h4 : ((q2 : Int) == 2) = false := by rw [beq_eq_false_iff_ne]; omega
          rw [h3] at hsu
          simp only [Bool.false_and, Bool.false_eq_true, if_false, Nat.add_zero] at hsu
          have HSU := Lib.hid hsu
          clear h2 h3 hsu
          go_wp2
          go_roundw
          case rel => exact ⟨k + 1, by omega, by go_num, by rw [HSU.out], ST2.out⟩
          case measure => simp [intOf]; omega
      · obtain rfl : k = N := by omega
        have ST2 := Lib.hid st
        clear st hsu
        go_wp2
        go_ret2
        exact ⟨by rw [HL.out, HSN.out]; rfl, ST2.out.below⟩
end Go.Proofs.Ytecnmikfaoankaa
