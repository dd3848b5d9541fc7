/- Contract: the reference's CrossBeams. -/
import Derived.Test.YtcigmmafmogmkaaCrossBL
import Derived.Test.YtcigmmafmogmkaaCrossIW
import Derived.Test.YtcigmmafmogmkaaBetwW
import Derived.Test.YtcigmmafmogmkaaCellW
import Derived.Deep.LoopGhost
namespace Go.Proofs.Ytcigmmafmogmkaa
open Go.RowKit
set_option linter.unusedVariables false
set_option linter.unusedSimpArgs false

theorem sumN_mono (f : Nat → Nat) (a : Nat) : ∀ d, sumN f a ≤ sumN f (a + d) := by
  intro d
  induction d with
  | zero => exact Nat.le_refl _
  | succ d ih => exact Nat.le_trans ih (Nat.le_add_right _ _)
theorem Gr.rowB_own (g : Gr) (p : Nat) : ∀ k, k ≤ p + 1 → g.rowB p k = 0 := by
  intro k hk
  unfold Gr.rowB
  refine Eq.trans (sumN_congr (g := fun _ => 0) fun q hq => ?_) (sumN_zero k)
  rw [decide_eq_false (show ¬ p < q by omega)]
  rfl
theorem Gr.rowB_yes {g : Gr} {p q : Nat} (h : p < q) (h1 : g.lessB p = true) (h2 : g.lessB q = true) : g.rowB p (q + 1) = g.rowB p q + g.betwN p q := by
  show g.rowB p q + (if (decide (p < q) && (g.lessB p && g.lessB q)) = true then g.betwN p q else 0) = _
  rw [decide_eq_true h, h1, h2]
  rfl
theorem Gr.rowB_no {g : Gr} {p q : Nat} (h : (g.lessB p && g.lessB q) = false) : g.rowB p (q + 1) = g.rowB p q := by
  show g.rowB p q + (if (decide (p < q) && (g.lessB p && g.lessB q)) = true then g.betwN p q else 0) = _
  rw [h, Bool.and_false]
  rfl
theorem Gr.pairB_succ (g : Gr) (p : Nat) : g.pairB (p + 1) = g.pairB p + g.rowB p g.ports := rfl
theorem Gr.pairB_bd {g : Gr} (hg : g.ok) {p q : Nat} (hp : p < g.ports) (hq : q ≤ g.ports) : g.pairB p + g.rowB p q ≤ 25 := by
  have h1 : g.rowB p q ≤ g.rowB p g.ports := by
    have := sumN_mono (fun q => if (decide (p < q) && (g.lessB p && g.lessB q)) = true then g.betwN p q else 0) q (g.ports - q)
    rw [show q + (g.ports - q) = g.ports by omega] at this
    exact this
  have h2 : g.pairB (p + 1) ≤ g.pairB g.ports := by
    have := sumN_mono (fun p => g.rowB p g.ports) (p + 1) (g.ports - (p + 1))
    rw [show p + 1 + (g.ports - (p + 1)) = g.ports by omega] at this
    exact this
  rw [Gr.pairB_succ] at h2
  have h3 := Gr.pairB_eq hg
  have h4 : g.crN g.bmB ≤ g.n * g.m := cntN_le _ _
  have h5 := Gr.size_le hg
  omega

set_option maxRecDepth 100000 in
set_option maxHeartbeats 8000000 in
theorem sCrossBeams_any (ao : Option Addr) (cap : Nat) (ss : List ByteArray) (w : World) (hx : CellsS w ao ss) (hm : ss.length ≤ maxLen) (hsz : ∀ s ∈ ss, s.size ≤ maxLen) :
    Calls Try.prog 14 #[.slice ao ss.length cap] w fun e w' => e = .returned (.tuple #[.int .i64 (crL ss (gr ss).bmB), .bool (gridB ss)]) ∧ Below w.heap.size w w' := by
  have HGI := Lib.hid (sGridIn_any ao cap ss w hx hm hsz)
  clear hsz
  cases hg : gridB ss
  · have HG := Lib.hid hg
    have HL := Lib.hid (show crL ss (gr ss).bmB = 0 by simp [crL, hg])
    clear hg hx
    go_enter Try.func14, Try.ntmps14
    go_wp2_with fail
    refine HGI.out.mono ?_
    rintro e w2 ⟨rfl, hd⟩
    rw [HG.out]
    have HD := Lib.hid hd
    clear hd
    go_wp2
    go_ret2
    exact ⟨by rw [HL.out]; rfl, HD.out.below _⟩
  · have hok := gr_ok hg
    have hp20 := (Gr.ports_bd hok).2
    have HX := Lib.hid hx
    have HG := Lib.hid hg
    have HOK := Lib.hid hok
    have HL := Lib.hid (show crL ss (gr ss).bmB = ((gr ss).pairB (gr ss).ports : Nat) by simp [crL, hg, Gr.pairB_eq hok])
    have HPR := Lib.hid fun W (h : CellsS W ao ss) => l2Pairs_any ao cap ss W h hg
    have HGET : Hid (∀ k, k < (gr ss).ports → ((gr ss).endsTo (gr ss).ports).getD k 0 = ((gr ss).endOf k : Nat)) := fun k hk => Gr.endsTo_getD hok hk
    have HLEN := Lib.hid (Gr.endsTo_length (gr ss) (gr ss).ports)
    have HBM : Hid (∀ p, p < (gr ss).ports → ∃ K y, (gr ss).Beam p K y ∧ (gr ss).cellsTo ((gr ss).ent p) (K + 1) = (gr ss).wayI p) := fun p hp => by
      obtain ⟨K, y, hB⟩ := Gr.beam_of hok hp
      exact ⟨K, y, hB, by rw [Gr.wayI, Gr.lenOf_eq hB]⟩
    have HBD := Lib.hid fun p q (hp : p < (gr ss).ports) (hq : q ≤ (gr ss).ports) => Gr.pairB_bd hok hp hq
    clear hx hg hok
    generalize hPP : (gr ss).endsTo (gr ss).ports = PP at *
    clear hPP
    go_enter Try.func14, Try.ntmps14
    go_wp2_with fail
    refine HGI.out.mono ?_
    rintro e w2 ⟨rfl, hd⟩
    rw [HG.out]
    have HD := Lib.hid hd
    clear hd HGI
    go_wp2_with fail
    refine (HPR.out _ (HX.out.dr HD.out)).mono ?_
    rintro e w3 ⟨v, rfl, s3⟩
    have st := ((St.init w).dr HD.out).join s3
    obtain ⟨a1, c1, rfl⟩ := st.shapeI0
    rw [HLEN.out] at st ⊢
    clear s3
    generalize hP : (gr ss).ports = P at *
    have HPQ := Lib.hid hP
    clear hP
    have HST0 := Lib.hid st
    clear st
    go_wp2_with fail
    go_loopg [5, 6] P (fun kk v5 v6 wr => ∃ p : Nat, kk + p = P ∧ v6 = .int .i64 p ∧ v5 = .int .i64 ((gr ss).pairB p : Nat) ∧ St w wr [SI (.slice a1 P c1) PP])
    case atStart => exact ⟨0, by omega, rfl, rfl, HST0.out⟩
    case round =>
      clear HST0
      obtain ⟨p, hp, rfl, rfl, st⟩ := hrel
      generalize gk = ko at *
      by_cases hlt : p < P
      · have hb0 := HBD.out p 0 hlt (Nat.zero_le _)
        have HST := Lib.hid st
        clear st
        have HR0 := Lib.hid (Gr.rowB_own (gr ss) p (p + 1) (Nat.le_refl _))
        go_wp2_with fail
        go_loopg [5, 7] (P - (p + 1)) (fun kk v5 v7 wq => ∃ q : Nat, kk + q = P ∧ p + 1 ≤ q ∧ v7 = .int .i64 q ∧ v5 = .int .i64 ((gr ss).pairB p + (gr ss).rowB p q : Nat) ∧ St w wq [SI (.slice a1 P c1) PP])
        case atStart => exact ⟨p + 1, by omega, Nat.le_refl _, by go_num, by rw [HR0.out, Nat.add_zero], HST.out⟩
        case round =>
          clear HST HR0
          obtain ⟨q, hq, hpq, rfl, rfl, st⟩ := hrel
          have hb1 := HBD.out p q hlt (by omega)
          by_cases hlt2 : q < P
          · have hb2 := HBD.out p (q + 1) hlt (by omega)
            obtain ⟨b1, f1, rfl, hc1⟩ := st.cellAt 0 rfl (j := p) (by rw [HLEN.out]; exact hlt)
            obtain ⟨b1', f1', he, hc2⟩ := st.cellAt 0 rfl (j := q) (by rw [HLEN.out]; exact hlt2)
            cases he
            rw [HGET.out p hlt] at hc1
            rw [HGET.out q hlt2] at hc2
            have HST := Lib.hid st
            clear st
            by_cases h1 : p < (gr ss).endOf p
            · have e1 : decide ((p : Int) < ((gr ss).endOf p : Int)) = true := decide_eq_true (by omega)
              have l1 : (gr ss).lessB p = true := decide_eq_true h1
              by_cases h2 : q < (gr ss).endOf q
              · have e2 : decide ((q : Int) < ((gr ss).endOf q : Int)) = true := decide_eq_true (by omega)
                have l2 : (gr ss).lessB q = true := decide_eq_true h2
                have HY := Lib.hid (Gr.rowB_yes (g := gr ss) (p := p) (q := q) (by omega) l1 l2)
                have hne : p ≠ q := by omega
                have hne2 : (gr ss).endOf p ≠ q := fun e => by
                  have := (Gr.endOf_pair HOK.out (p := p) (by rw [HPQ.out]; exact hlt)).2.2
                  rw [e] at this
                  omega
                obtain ⟨K, y, hB, hW⟩ := HBM.out p hlt
                obtain ⟨K', y', hB', hW'⟩ := HBM.out q hlt2
                have HB1 := Lib.hid hB
                have HB1' := Lib.hid hB'
                have HW := Lib.hid hW
                have HW' := Lib.hid hW'
                have HP2 : Hid (p < (gr ss).ports) := by show p < (gr ss).ports; rw [HPQ.out]; exact hlt
                have HQ2 : Hid (q < (gr ss).ports) := by show q < (gr ss).ports; rw [HPQ.out]; exact hlt2
                have HL5 := Lib.hid (fun W a1 a2 c1 c2 (h1 : CellsS W ao ss) (h2 : CellsI W a1 _) (h3 : CellsI W a2 _) => l5Both_any ao a1 a2 cap c1 c2 ss p q W h1 HG.out HP2.out HQ2.out hne hne2 h2 h3)
                rw [HY.out] at hb2
                clear hB hB' hW hW' hne hne2 l1 l2
                generalize (gr ss).endOf p = E1 at *
                generalize (gr ss).endOf q = E2 at *
                go_wp2_with fail
                refine (l2Way_any ao cap ss p K y _ (HST.out.oldS HX.out) HG.out HP2.out HB1.out).mono ?_
                rintro e w4 ⟨v1, v2, rfl, s4⟩
                rw [HW.out] at s4
                have st := (HST.out.join s4).drop0
                obtain ⟨a3, c3, rfl⟩ := st.shapeI 0 rfl
                clear s4 HST hc1 hc2
                go_wp2_with fail
                refine (l2Way_any ao cap ss q K' y' _ (st.oldS HX.out) HG.out HQ2.out HB1'.out).mono ?_
                rintro e w5 ⟨v3, v4, rfl, s5⟩
                rw [HW'.out] at s5
                replace st := (st.join s5).drop0
                obtain ⟨a4, c4, rfl⟩ := st.shapeI 0 rfl
                clear s5
                go_wp2_with fail
                refine (HL5.out _ _ _ _ _ (st.oldS HX.out) (st.cells 1 rfl) (st.cells 0 rfl)).mono ?_
                rintro e w6 ⟨rfl, hd6⟩
                have HS6 := Lib.hid ((st.dr hd6).drop0.drop0)
                clear st hd6
                generalize (gr ss).betwN p q = BW at *
                generalize (gr ss).rowB p q = RB at *
                generalize (gr ss).pairB p = PB at *
                go_wp2_with fail
                go_roundg (gk - 1)
                case rel => exact ⟨q + 1, by omega, by omega, by go_num, by rw [HY.out]; go_num, HS6.out⟩
                case measure => omega
              · have e2 : decide ((q : Int) < ((gr ss).endOf q : Int)) = false := decide_eq_false (by omega)
                have l2 : (gr ss).lessB q = false := decide_eq_false h2
                have HY := Lib.hid (Gr.rowB_no (g := gr ss) (p := p) (q := q) (by rw [l2, Bool.and_false]))
                clear l1 l2
                generalize (gr ss).endOf p = E1 at *
                generalize (gr ss).endOf q = E2 at *
                go_wp2_with fail
                go_roundg (gk - 1)
                case rel => exact ⟨q + 1, by omega, by omega, by go_num, by rw [HY.out], HST.out⟩
                case measure => omega
            · have e1 : decide ((p : Int) < ((gr ss).endOf p : Int)) = false := decide_eq_false (by omega)
              have l1 : (gr ss).lessB p = false := decide_eq_false h1
              have HY := Lib.hid (Gr.rowB_no (g := gr ss) (p := p) (q := q) (by rw [l1]; rfl))
              clear l1
              generalize (gr ss).endOf p = E1 at *
              generalize (gr ss).endOf q = E2 at *
              go_wp2_with fail
              go_roundg (gk - 1)
              case rel => exact ⟨q + 1, by omega, by omega, by go_num, by rw [HY.out], HST.out⟩
              case measure => omega
          · obtain rfl : q = P := by omega
            have HPS := Lib.hid (Gr.pairB_succ (gr ss) p)
            have HST := Lib.hid st
            clear st
            go_wp2_with fail
            go_roundg (ko - 1)
            case rel => exact ⟨p + 1, by omega, by go_num, by rw [HPS.out, HPQ.out], HST.out⟩
            case measure => omega
      · obtain rfl : p = P := by omega
        have HST := Lib.hid st
        clear st
        go_wp2_with fail
        go_ret2
        exact ⟨by rw [HL.out]; rfl, HST.out.below⟩
end Go.Proofs.Ytcigmmafmogmkaa
