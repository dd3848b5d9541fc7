/- Contracts: the reference's CrossTotal and CrossRounds. -/
import Derived.Test.YtcigmmafmogmkaaCrossIW
import Derived.Test.YtcigmmafmogmkaaSelfPS
import Derived.Test.YtcigmmafmogmkaaRounds3W
import Derived.Test.YtcigmmafmogmkaaTimesW
import Derived.Deep.LoopGhost
namespace Go.Proofs.Ytcigmmafmogmkaa
open Go.RowKit Go.Maps
set_option linter.unusedVariables false
set_option linter.unusedSimpArgs false

set_option maxRecDepth 100000 in
set_option maxHeartbeats 8000000 in
theorem sCrossTotal_any (ao : Option Addr) (cap : Nat) (ss : List ByteArray) (w : World) (hx : CellsS w ao ss) (hm : ss.length ≤ maxLen) (hsz : ∀ s ∈ ss, s.size ≤ maxLen) :
    Calls Try.prog 10 #[.slice ao ss.length cap] w fun e w' => e = .returned (.tuple #[.int .i64 (crL ss (gr ss).totB), .bool (gridB ss)]) ∧ Below w.heap.size w w' := by
  have HGI := Lib.hid (sGridIn_any ao cap ss w hx hm hsz)
  clear hsz
  cases hg : gridB ss
  · have HG := Lib.hid hg
    have HL := Lib.hid (show crL ss (gr ss).totB = 0 by simp [crL, hg])
    clear hg hx
    go_enter Try.func10, Try.ntmps10
    go_wp2_with fail
    refine HGI.out.mono ?_
    rintro e w2 ⟨rfl, hd⟩
    rw [HG.out]
    have HD := Lib.hid hd
    clear hd
    go_wp2
    go_ret2
    exact ⟨by rw [HL.out]; rfl, HD.out.below _⟩
  · have hok := gr_ok hg
    have hn1 : 1 ≤ ss.length := hok.n1
    have hn5 : ss.length ≤ 5 := hok.n5
    have hm1 : 1 ≤ (rowOf ss 0).size := hok.m1
    have hm5 : (rowOf ss 0).size ≤ 5 := hok.m5
    have h25 : (gr ss).n * (gr ss).m ≤ 25 := Gr.size_le hok
    obtain ⟨b, off, rfl, hc, hbb⟩ := hx.at (i := 0) (by omega)
    have HX := Lib.hid hx
    have HG := Lib.hid hg
    have HL := Lib.hid (show crL ss (gr ss).totB = ((gr ss).crN (gr ss).totB : Nat) by simp [crL, hg])
    have HLC := Lib.hid fun q W (h : CellsS W (some ⟨b, off, none⟩) ss) (hq : q < (gr ss).n * (gr ss).m) => l2Cell_any _ cap ss q W h hg hq
    have HLP := Lib.hid fun q W (h : CellsS W (some ⟨b, off, none⟩) ss) (hq : q < (gr ss).n * (gr ss).m) => l4Path_any _ cap ss q W h hg hq
    have HCR := Lib.hid fun q (hq : q < (gr ss).n * (gr ss).m) => Gr.crB_pass hok hq
    have q2 : (ss.length : Int) * ((rowOf ss 0).size : Int) = (((gr ss).n * (gr ss).m : Nat) : Int) := by rw [Int.natCast_mul]; rfl
    have HN : Hid ((gr ss).crN (gr ss).totB = cntN (fun c => (gr ss).crB c && (gr ss).totB c) ((gr ss).n * (gr ss).m)) := rfl
    have HSU : Hid (∀ c, cntN (fun c => (gr ss).crB c && (gr ss).totB c) (c + 1) = cntN (fun c => (gr ss).crB c && (gr ss).totB c) c + if ((gr ss).crB c && (gr ss).totB c) = true then 1 else 0) := fun c => rfl
    have HCB : Hid (∀ c, cntN (fun c => (gr ss).crB c && (gr ss).totB c) c ≤ c) := fun c => cntN_le _ _
    have H0 : Hid (cntN (fun c => (gr ss).crB c && (gr ss).totB c) 0 = 0) := rfl
    clear hc hbb hx hg hok
    generalize hcn : cntN (fun c => (gr ss).crB c && (gr ss).totB c) = cn at *
    clear hcn
    generalize hNM : (gr ss).n * (gr ss).m = NM at *
    clear hNM
    go_enter Try.func10, Try.ntmps10
    go_wp2_with fail
    refine HGI.out.mono ?_
    rintro e w2 ⟨rfl, hd⟩
    rw [HG.out]
    have HBD := Lib.hid (hd.below w.heap.size)
    clear hd HGI
    go_wp2_with fail
    go_loopg [4, 5] NM (fun kk v4 v5 wr => ∃ q : Nat, kk + q = NM ∧ v5 = .int .i64 q ∧ v4 = .int .i64 (cn q : Nat) ∧ Hid (Below w.heap.size w wr))
    case atStart => exact ⟨0, by omega, rfl, by rw [H0.out]; rfl, HBD⟩
    case round =>
      clear HBD
      obtain ⟨q, hq, rfl, rfl, hbw⟩ := hrel
      have hcq := HCB.out q
      obtain ⟨b', off', he, hcr, -⟩ := (HX.out.below hbw.out (Nat.le_refl _)).at (i := 0) (by omega)
      cases he
      have hc1 := hcr 0 (by omega)
      rw [Nat.add_zero] at hc1
      clear hcr
      generalize rowOf ss 0 = s0 at *
      by_cases hlt : q < NM
      · have HLC2 := Lib.hid (HLC.out q wr (HX.out.below hbw.out (Nat.le_refl _)) hlt)
        have HLP2 := Lib.hid fun W (h : CellsS W (some ⟨b, off, none⟩) ss) => HLP.out q W h hlt
        have hsu := HSU.out q
        rw [HCR.out q hlt] at hsu
        have HSQ := Lib.hid hsu
        clear hsu
        generalize (gr ss).sig q = sg at *
        generalize (gr ss).passN q = pn at *
        go_wp2_with fail
        refine HLC2.out.mono ?_
        rintro e w3 ⟨rfl, d3⟩
        have HB3 := Lib.hid (hbw.out.trans (d3.below _))
        clear d3 hc1
        by_cases hs : sg = 46
        · subst hs
          go_wp2_with fail
          refine (HLP2.out _ (HX.out.below HB3.out (Nat.le_refl _))).mono ?_
          rintro e w4 ⟨v, L, rfl, st, hcn, hl⟩
          obtain ⟨a, k, rfl⟩ := st.shapeI0
          have HB4 : Hid (Below w.heap.size w w4) := HB3.out.trans (st.below.mono HB3.out.size)
          have HST := Lib.hid st
          have HCN := Lib.hid hcn
          have HLM := Lib.hid hl
          clear st hcn hl
          go_wp2_with fail
          refine (l2Often_any a k L q _ (HST.out.cells 0 rfl) (Nat.le_trans HLM.out (by decide))).mono ?_
          rintro e w5 ⟨rfl, rfl⟩
          rw [HCN.out]
          by_cases hp : pn < 2
          · have e1 : decide ((pn : Int) < 2) = true := decide_eq_true (by omega)
            have e2 : decide (pn < 2) = true := decide_eq_true hp
            have hn1 : cn (q + 1) = cn q + 1 := by have := HSQ.out; rw [e2] at this; simpa [Gr.totB] using this
            have HN1 := Lib.hid hn1
            clear hn1
            go_wp2_with fail
            go_roundg (gk - 1)
            case rel => exact ⟨q + 1, by omega, by go_num, by rw [HN1.out]; go_num, HB4⟩
            case measure => omega
          · have e1 : decide ((pn : Int) < 2) = false := decide_eq_false (by omega)
            have e2 : decide (pn < 2) = false := decide_eq_false hp
            have hn1 : cn (q + 1) = cn q := by have := HSQ.out; rw [e2] at this; simpa using this
            have HN1 := Lib.hid hn1
            clear hn1
            go_wp2_with fail
            go_roundg (gk - 1)
            case rel => exact ⟨q + 1, by omega, by go_num, by rw [HN1.out], HB4⟩
            case measure => omega
        · have en : (sg == 46) = false := beq_eq_false_iff_ne.2 hs
          have hn1 : cn (q + 1) = cn q := by have := HSQ.out; rw [en] at this; simpa using this
          have HN1 := Lib.hid hn1
          clear hn1
          go_wp2_with fail
          go_roundg (gk - 1)
          case rel => exact ⟨q + 1, by omega, by go_num, by rw [HN1.out], HB3⟩
          case measure => omega
      · obtain rfl : q = NM := by omega
        go_wp2_with fail
        go_ret2
        exact ⟨by rw [HL.out, HN.out]; rfl, hbw.out⟩
end Go.Proofs.Ytcigmmafmogmkaa
