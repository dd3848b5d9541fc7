/- Contracts: the program's crossings (CrossTotal, CrossBeams, CrossRounds). -/
/- Written by wip/tools/gencross.py. -/
import Derived.Test.YtcigmmafmogmkaaCrossL
import Derived.Test.YtcigmmafmogmkaaSelfPW
import Derived.Deep.LoopGhost
namespace Go.Proofs.Ytcigmmafmogmkaa
open Go.RowKit Go.Maps
set_option linter.unusedVariables false
set_option linter.unusedSimpArgs false

noncomputable def crL (ss : List ByteArray) (F : Nat → Bool) : Int := if gridB ss = true then ((gr ss).crN F : Nat) else 0

set_option maxRecDepth 100000 in
set_option maxHeartbeats 8000000 in
theorem cross_CrossTotal_1 (ao : Option Addr) (cap : Nat) (ss : List ByteArray) (w : World) (F : Nat → Bool) (hx : CellsS w ao ss) (hm : ss.length ≤ maxLen) (hsz : ∀ s ∈ ss, s.size ≤ maxLen)
    (hF : gridB ss = true → ∀ f, (gr ss).RoundOk ((gr ss).repsTo (4 * ((gr ss).n * (gr ss).m))) [] f → ∀ q, q < (gr ss).n * (gr ss).m → ∀ i j, f (q, 0) = some i → f (q, 1) = some j → ∀ W, Below w.heap.size w W →
      Calls Try.prog 31 #[.int .i64 i, .int .i64 j] W fun e w' => e = .returned (.bool (F q)) ∧ W = w') :
    Calls Try.prog 30 #[.slice ao ss.length cap, .func (.func 31) #[] #[]] w fun e w' => e = .returned (.tuple #[.int .i64 (crL ss F), .bool (gridB ss)]) ∧ Below w.heap.size w w' := by
  have HGI := Lib.hid (iGridIn_any ao cap ss w hx hm hsz)
  cases hg : gridB ss
  · have HG := Lib.hid hg
    have HL := Lib.hid (show crL ss F = 0 by simp [crL, hg])
    clear hg hx hsz hF
    go_enter Try.func30, Try.ntmps30
    go_wp2_with fail
    refine HGI.out.mono ?_
    rintro e w2 ⟨rfl, rfl⟩
    rw [HG.out]
    go_wp2
    go_ret2
    exact ⟨by rw [HL.out]; rfl, Below.refl _ _⟩
  · have hok := gr_ok hg
    have h25 := Gr.size_le hok
    have HG := Lib.hid hg
    have HL := Lib.hid (show crL ss F = ((gr ss).crN F : Nat) by simp [crL, hg])
    have HAP := Lib.hid (allPaths_any ao cap ss w hx hg)
    have HCE := Lib.hid fun W (h : CellsS W ao ss) => cells_any ao cap ss W h hg
    have HLA := Lib.hid fun q W (h : CellsS W ao ss) (hq : q < (gr ss).n * (gr ss).m) => letterAt_any ao cap ss q W h hg hq
    have HFF := Lib.hid (hF hg)
    have HX := Lib.hid hx
    have HOK := Lib.hid hok
    clear hx hsz hF hg hok
    go_enter Try.func30, Try.ntmps30
    go_wp2_with fail
    refine HGI.out.mono ?_
    rintro e w2 ⟨rfl, rfl⟩
    rw [HG.out]
    go_wp2_with fail
    refine HAP.out.mono ?_
    rintro e w3 ⟨B, n, f, v, Z, rfl, stm, hz, -, hro⟩
    obtain ⟨va, vc, rfl⟩ := RL_shape (stm.st.own _ List.mem_cons_self)
    have HB3 := Lib.hid stm.st.below
    have HID := Lib.hid stm.ids
    have HRO := Lib.hid hro
    clear stm hz hro HAP HGI
    go_wp2_with fail
    refine (HCE.out _ (HX.out.below HB3.out (Nat.le_refl _))).mono ?_
    rintro e w4 ⟨rfl, rfl⟩
    have HN : Hid ((gr ss).crN F = cntN (fun c => (gr ss).crB c && F c) ((gr ss).n * (gr ss).m)) := rfl
    have HSU : Hid (∀ c, cntN (fun c => (gr ss).crB c && F c) (c + 1) = cntN (fun c => (gr ss).crB c && F c) c + if ((gr ss).crB c && F c) = true then 1 else 0) := fun c => rfl
    have HCB : Hid (∀ c, cntN (fun c => (gr ss).crB c && F c) c ≤ c) := fun c => cntN_le _ _
    have H0 : Hid (cntN (fun c => (gr ss).crB c && F c) 0 = 0) := rfl
    generalize hcn : cntN (fun c => (gr ss).crB c && F c) = cn at *
    clear hcn
    have HVV : Hid (∀ q d, q < (gr ss).n * (gr ss).m → d < 4 → (gr ss).val (q, d)) := fun q d hq hd => ⟨hq, hd⟩
    have HRN : Hid ((gr ss).RoundOk ((gr ss).repsTo (4 * ((gr ss).n * (gr ss).m))) [] f → (gr ss).RoundOk ((gr ss).repsTo (4 * ((gr ss).n * (gr ss).m))) [] f) := id
    obtain ⟨RP, hRP⟩ : ∃ RP, RP = (gr ss).repsTo (4 * ((gr ss).n * (gr ss).m)) := ⟨_, rfl⟩
    have HSAM : Hid (∀ q, q < (gr ss).n * (gr ss).m → ∃ i j, f (q, 0) = some i ∧ f (q, 1) = some j ∧ 0 ≤ i ∧ 0 ≤ j ∧ i ≤ 1000 ∧ j ≤ 1000 ∧ (i = j ↔ (gr ss).Path (q, 0) (q, 1))) := fun q hq => Gr.RoundOk.same HOK.out HRO.out (x := (q, 0)) (y := (q, 1)) ⟨hq, by show 0 < 4; omega⟩ ⟨hq, by show 1 < 4; omega⟩
    have HFG : Hid (∀ q, q < (gr ss).n * (gr ss).m → ∀ i j, f (q, 0) = some i → f (q, 1) = some j → ∀ W, Below w.heap.size w W → Calls Try.prog 31 #[.int .i64 i, .int .i64 j] W fun e w' => e = .returned (.bool (F q)) ∧ W = w') := HFF.out f HRO.out
    clear HFF HRO HVV HRN hRP
    generalize hNM : (gr ss).n * (gr ss).m = NM at *
    clear hNM
    go_wp2_with fail
    go_loopg [8, 22] NM (fun kk v8 v22 wr => ∃ c : Nat, kk + c = NM ∧ v22 = .int .i64 c ∧ v8 = .int .i64 (cn c : Nat) ∧ Dr w3 wr)
    case atStart => exact ⟨0, by omega, rfl, by rw [H0.out]; rfl, Dr.refl _⟩
    case round =>
      obtain ⟨q, hq, rfl, rfl, hdr⟩ := hrel
      have hcq := HCB.out q
      by_cases hlt : q < NM
      · obtain ⟨i, j, fi, fj, i0, j0, i1, j1, hij⟩ := HSAM.out q hlt
        have hid2 := HID.out.below ((hdr.trans ⟨1, rfl⟩).below _)
        have k1 : (Instr.lookup 58 (.map (some B)) (.agg #[.int .i64 q, .int .i64 0]) false).run Try.prog wr.drew = .ok (.int .i64 i) wr.drew := hid2.look (q, 0) fi ⟨by show q ≤ 1000; omega, by show 0 ≤ 1000; omega⟩
        have k2 : (Instr.lookup 58 (.map (some B)) (.agg #[.int .i64 q, .int .i64 1]) false).run Try.prog wr.drew = .ok (.int .i64 j) wr.drew := hid2.look (q, 1) fj ⟨by show q ≤ 1000; omega, by show 1 ≤ 1000; omega⟩
        have HLA2 := Lib.hid (HLA.out q _ (HX.out.below (HB3.out.trans (((hdr.trans ⟨1, rfl⟩).below w3.heap.size).mono HB3.out.size)) (Nat.le_refl _)) hlt)
        have HCF := Lib.hid fun W (hb : Below w.heap.size w W) => HFG.out q hlt i j fi fj W hb
        have HDR := Lib.hid (hdr.trans ⟨1, rfl⟩)
        have hcr : (gr ss).crB q = ((gr ss).sig q == 46 && (i != j)) := by
          rw [Bool.eq_iff_iff, Gr.crB_iff, Bool.and_eq_true, beq_iff_eq, bne_iff_ne]
          exact and_congr_right fun _ => not_congr hij.symm
        have hsu := HSU.out q
        rw [hcr] at hsu
        have HSQ := Lib.hid hsu
        clear hij fi fj hid2 hdr hcr hsu
        generalize (gr ss).sig q = sg at *
        go_wp2
        go_region
        all_goals
          go_wp2_with fail
          refine HLA2.out.mono ?_
          rintro e w5 ⟨rfl, d5⟩
          have HD5 := Lib.hid (HDR.out.trans d5)
          have HB5 : Hid (Below w.heap.size w w5) := HB3.out.trans ((HD5.out.below w3.heap.size).mono HB3.out.size)
          clear d5 k1 k2
          by_cases hs : sg = 46
          · subst hs
            by_cases he : i = j
            · subst he
              have en : (i != i) = false := bne_self_eq_false _
              have hn1 : cn (q + 1) = cn q := by have := HSQ.out; simpa using this
              have HN1 := Lib.hid hn1
              clear hn1
              go_wp2_with fail
              go_roundg (gk - 1)
              case rel => exact ⟨q + 1, by omega, by go_num, by rw [HN1.out], HD5.out⟩
              case measure => omega
            · have en : (i != j) = true := bne_iff_ne.2 he
              go_wp2_with fail
              refine (HCF.out _ HB5.out).mono ?_
              rintro e w6 ⟨rfl, rfl⟩
              have hn1 : cn (q + 1) = cn q + if F q = true then 1 else 0 := by have := HSQ.out; rw [en] at this; simpa using this
              cases hFq : F q
              · rw [hFq] at hn1
                have hn2 : cn (q + 1) = cn q := hn1
                have HN1 := Lib.hid hn2
                clear hn1 hn2
                go_wp2_with fail
                go_roundg (gk - 1)
                case rel => exact ⟨q + 1, by omega, by go_num, by rw [HN1.out], HD5.out⟩
                case measure => omega
              · rw [hFq] at hn1
                have hn2 : cn (q + 1) = cn q + 1 := hn1
                have HN1 := Lib.hid hn2
                clear hn1 hn2
                go_wp2_with fail
                go_roundg (gk - 1)
                case rel => exact ⟨q + 1, by omega, by go_num, by rw [HN1.out]; go_num, HD5.out⟩
                case measure => omega
          · have en : (sg == 46) = false := beq_eq_false_iff_ne.2 hs
            have hn1 : cn (q + 1) = cn q := by have := HSQ.out; rw [en] at this; simpa using this
            have HN1 := Lib.hid hn1
            clear hn1
            go_wp2_with fail
            go_roundg (gk - 1)
            case rel => exact ⟨q + 1, by omega, by go_num, by rw [HN1.out], HD5.out⟩
            case measure => omega
      · obtain rfl : q = NM := by omega
        have HD5 := Lib.hid hdr
        clear hdr
        go_wp2_with fail
        go_ret2
        exact ⟨by rw [HL.out, HN.out]; rfl, HB3.out.trans ((HD5.out.below w3.heap.size).mono HB3.out.size)⟩

set_option maxRecDepth 100000 in
set_option maxHeartbeats 8000000 in
theorem cross_CrossBeams_1 (ao : Option Addr) (cap : Nat) (ss : List ByteArray) (w : World) (b1 : Nat) (F : Nat → Bool) (hx : CellsS w ao ss) (hm : ss.length ≤ maxLen) (hsz : ∀ s ∈ ss, s.size ≤ maxLen)
    (hF : gridB ss = true → ∀ f, (gr ss).RoundOk ((gr ss).repsTo (4 * ((gr ss).n * (gr ss).m))) [] f → ∀ q, q < (gr ss).n * (gr ss).m → ∀ i j, f (q, 0) = some i → f (q, 1) = some j → ∀ W, Below w.heap.size w W →
      Calls Try.prog 35 #[.int .i64 i, .int .i64 j, .pointer (some ⟨b1, 0, none⟩)] W fun e w' => e = .returned (.bool (F q)) ∧ W = w') :
    Calls Try.prog 30 #[.slice ao ss.length cap, .func (.func 35) #[] #[.pointer (some ⟨b1, 0, none⟩)]] w fun e w' => e = .returned (.tuple #[.int .i64 (crL ss F), .bool (gridB ss)]) ∧ Below w.heap.size w w' := by
  have HGI := Lib.hid (iGridIn_any ao cap ss w hx hm hsz)
  cases hg : gridB ss
  · have HG := Lib.hid hg
    have HL := Lib.hid (show crL ss F = 0 by simp [crL, hg])
    clear hg hx hsz hF
    go_enter Try.func30, Try.ntmps30
    go_wp2_with fail
    refine HGI.out.mono ?_
    rintro e w2 ⟨rfl, rfl⟩
    rw [HG.out]
    go_wp2
    go_ret2
    exact ⟨by rw [HL.out]; rfl, Below.refl _ _⟩
  · have hok := gr_ok hg
    have h25 := Gr.size_le hok
    have HG := Lib.hid hg
    have HL := Lib.hid (show crL ss F = ((gr ss).crN F : Nat) by simp [crL, hg])
    have HAP := Lib.hid (allPaths_any ao cap ss w hx hg)
    have HCE := Lib.hid fun W (h : CellsS W ao ss) => cells_any ao cap ss W h hg
    have HLA := Lib.hid fun q W (h : CellsS W ao ss) (hq : q < (gr ss).n * (gr ss).m) => letterAt_any ao cap ss q W h hg hq
    have HFF := Lib.hid (hF hg)
    have HX := Lib.hid hx
    have HOK := Lib.hid hok
    clear hx hsz hF hg hok
    go_enter Try.func30, Try.ntmps30
    go_wp2_with fail
    refine HGI.out.mono ?_
    rintro e w2 ⟨rfl, rfl⟩
    rw [HG.out]
    go_wp2_with fail
    refine HAP.out.mono ?_
    rintro e w3 ⟨B, n, f, v, Z, rfl, stm, hz, -, hro⟩
    obtain ⟨va, vc, rfl⟩ := RL_shape (stm.st.own _ List.mem_cons_self)
    have HB3 := Lib.hid stm.st.below
    have HID := Lib.hid stm.ids
    have HRO := Lib.hid hro
    clear stm hz hro HAP HGI
    go_wp2_with fail
    refine (HCE.out _ (HX.out.below HB3.out (Nat.le_refl _))).mono ?_
    rintro e w4 ⟨rfl, rfl⟩
    have HN : Hid ((gr ss).crN F = cntN (fun c => (gr ss).crB c && F c) ((gr ss).n * (gr ss).m)) := rfl
    have HSU : Hid (∀ c, cntN (fun c => (gr ss).crB c && F c) (c + 1) = cntN (fun c => (gr ss).crB c && F c) c + if ((gr ss).crB c && F c) = true then 1 else 0) := fun c => rfl
    have HCB : Hid (∀ c, cntN (fun c => (gr ss).crB c && F c) c ≤ c) := fun c => cntN_le _ _
    have H0 : Hid (cntN (fun c => (gr ss).crB c && F c) 0 = 0) := rfl
    generalize hcn : cntN (fun c => (gr ss).crB c && F c) = cn at *
    clear hcn
    have HVV : Hid (∀ q d, q < (gr ss).n * (gr ss).m → d < 4 → (gr ss).val (q, d)) := fun q d hq hd => ⟨hq, hd⟩
    have HRN : Hid ((gr ss).RoundOk ((gr ss).repsTo (4 * ((gr ss).n * (gr ss).m))) [] f → (gr ss).RoundOk ((gr ss).repsTo (4 * ((gr ss).n * (gr ss).m))) [] f) := id
    obtain ⟨RP, hRP⟩ : ∃ RP, RP = (gr ss).repsTo (4 * ((gr ss).n * (gr ss).m)) := ⟨_, rfl⟩
    have HSAM : Hid (∀ q, q < (gr ss).n * (gr ss).m → ∃ i j, f (q, 0) = some i ∧ f (q, 1) = some j ∧ 0 ≤ i ∧ 0 ≤ j ∧ i ≤ 1000 ∧ j ≤ 1000 ∧ (i = j ↔ (gr ss).Path (q, 0) (q, 1))) := fun q hq => Gr.RoundOk.same HOK.out HRO.out (x := (q, 0)) (y := (q, 1)) ⟨hq, by show 0 < 4; omega⟩ ⟨hq, by show 1 < 4; omega⟩
    have HFG : Hid (∀ q, q < (gr ss).n * (gr ss).m → ∀ i j, f (q, 0) = some i → f (q, 1) = some j → ∀ W, Below w.heap.size w W → Calls Try.prog 35 #[.int .i64 i, .int .i64 j, .pointer (some ⟨b1, 0, none⟩)] W fun e w' => e = .returned (.bool (F q)) ∧ W = w') := HFF.out f HRO.out
    clear HFF HRO HVV HRN hRP
    generalize hNM : (gr ss).n * (gr ss).m = NM at *
    clear hNM
    go_wp2_with fail
    go_loopg [8, 22] NM (fun kk v8 v22 wr => ∃ c : Nat, kk + c = NM ∧ v22 = .int .i64 c ∧ v8 = .int .i64 (cn c : Nat) ∧ Dr w3 wr)
    case atStart => exact ⟨0, by omega, rfl, by rw [H0.out]; rfl, Dr.refl _⟩
    case round =>
      obtain ⟨q, hq, rfl, rfl, hdr⟩ := hrel
      have hcq := HCB.out q
      by_cases hlt : q < NM
      · obtain ⟨i, j, fi, fj, i0, j0, i1, j1, hij⟩ := HSAM.out q hlt
        have hid2 := HID.out.below ((hdr.trans ⟨1, rfl⟩).below _)
        have k1 : (Instr.lookup 58 (.map (some B)) (.agg #[.int .i64 q, .int .i64 0]) false).run Try.prog wr.drew = .ok (.int .i64 i) wr.drew := hid2.look (q, 0) fi ⟨by show q ≤ 1000; omega, by show 0 ≤ 1000; omega⟩
        have k2 : (Instr.lookup 58 (.map (some B)) (.agg #[.int .i64 q, .int .i64 1]) false).run Try.prog wr.drew = .ok (.int .i64 j) wr.drew := hid2.look (q, 1) fj ⟨by show q ≤ 1000; omega, by show 1 ≤ 1000; omega⟩
        have HLA2 := Lib.hid (HLA.out q _ (HX.out.below (HB3.out.trans (((hdr.trans ⟨1, rfl⟩).below w3.heap.size).mono HB3.out.size)) (Nat.le_refl _)) hlt)
        have HCF := Lib.hid fun W (hb : Below w.heap.size w W) => HFG.out q hlt i j fi fj W hb
        have HDR := Lib.hid (hdr.trans ⟨1, rfl⟩)
        have hcr : (gr ss).crB q = ((gr ss).sig q == 46 && (i != j)) := by
          rw [Bool.eq_iff_iff, Gr.crB_iff, Bool.and_eq_true, beq_iff_eq, bne_iff_ne]
          exact and_congr_right fun _ => not_congr hij.symm
        have hsu := HSU.out q
        rw [hcr] at hsu
        have HSQ := Lib.hid hsu
        clear hij fi fj hid2 hdr hcr hsu
        generalize (gr ss).sig q = sg at *
        go_wp2
        go_region
        all_goals
          go_wp2_with fail
          refine HLA2.out.mono ?_
          rintro e w5 ⟨rfl, d5⟩
          have HD5 := Lib.hid (HDR.out.trans d5)
          have HB5 : Hid (Below w.heap.size w w5) := HB3.out.trans ((HD5.out.below w3.heap.size).mono HB3.out.size)
          clear d5 k1 k2
          by_cases hs : sg = 46
          · subst hs
            by_cases he : i = j
            · subst he
              have en : (i != i) = false := bne_self_eq_false _
              have hn1 : cn (q + 1) = cn q := by have := HSQ.out; simpa using this
              have HN1 := Lib.hid hn1
              clear hn1
              go_wp2_with fail
              go_roundg (gk - 1)
              case rel => exact ⟨q + 1, by omega, by go_num, by rw [HN1.out], HD5.out⟩
              case measure => omega
            · have en : (i != j) = true := bne_iff_ne.2 he
              go_wp2_with fail
              refine (HCF.out _ HB5.out).mono ?_
              rintro e w6 ⟨rfl, rfl⟩
              have hn1 : cn (q + 1) = cn q + if F q = true then 1 else 0 := by have := HSQ.out; rw [en] at this; simpa using this
              cases hFq : F q
              · rw [hFq] at hn1
                have hn2 : cn (q + 1) = cn q := hn1
                have HN1 := Lib.hid hn2
                clear hn1 hn2
                go_wp2_with fail
                go_roundg (gk - 1)
                case rel => exact ⟨q + 1, by omega, by go_num, by rw [HN1.out], HD5.out⟩
                case measure => omega
              · rw [hFq] at hn1
                have hn2 : cn (q + 1) = cn q + 1 := hn1
                have HN1 := Lib.hid hn2
                clear hn1 hn2
                go_wp2_with fail
                go_roundg (gk - 1)
                case rel => exact ⟨q + 1, by omega, by go_num, by rw [HN1.out]; go_num, HD5.out⟩
                case measure => omega
          · have en : (sg == 46) = false := beq_eq_false_iff_ne.2 hs
            have hn1 : cn (q + 1) = cn q := by have := HSQ.out; rw [en] at this; simpa using this
            have HN1 := Lib.hid hn1
            clear hn1
            go_wp2_with fail
            go_roundg (gk - 1)
            case rel => exact ⟨q + 1, by omega, by go_num, by rw [HN1.out], HD5.out⟩
            case measure => omega
      · obtain rfl : q = NM := by omega
        have HD5 := Lib.hid hdr
        clear hdr
        go_wp2_with fail
        go_ret2
        exact ⟨by rw [HL.out, HN.out]; rfl, HB3.out.trans ((HD5.out.below w3.heap.size).mono HB3.out.size)⟩

set_option maxRecDepth 100000 in
set_option maxHeartbeats 8000000 in
theorem cross_CrossRounds_1 (ao : Option Addr) (cap : Nat) (ss : List ByteArray) (w : World) (b1 : Nat) (F : Nat → Bool) (hx : CellsS w ao ss) (hm : ss.length ≤ maxLen) (hsz : ∀ s ∈ ss, s.size ≤ maxLen)
    (hF : gridB ss = true → ∀ f, (gr ss).RoundOk ((gr ss).repsTo (4 * ((gr ss).n * (gr ss).m))) [] f → ∀ q, q < (gr ss).n * (gr ss).m → ∀ i j, f (q, 0) = some i → f (q, 1) = some j → ∀ W, Below w.heap.size w W →
      Calls Try.prog 41 #[.int .i64 i, .int .i64 j, .pointer (some ⟨b1, 0, none⟩)] W fun e w' => e = .returned (.bool (F q)) ∧ W = w') :
    Calls Try.prog 30 #[.slice ao ss.length cap, .func (.func 41) #[] #[.pointer (some ⟨b1, 0, none⟩)]] w fun e w' => e = .returned (.tuple #[.int .i64 (crL ss F), .bool (gridB ss)]) ∧ Below w.heap.size w w' := by
  have HGI := Lib.hid (iGridIn_any ao cap ss w hx hm hsz)
  cases hg : gridB ss
  · have HG := Lib.hid hg
    have HL := Lib.hid (show crL ss F = 0 by simp [crL, hg])
    clear hg hx hsz hF
    go_enter Try.func30, Try.ntmps30
    go_wp2_with fail
    refine HGI.out.mono ?_
    rintro e w2 ⟨rfl, rfl⟩
    rw [HG.out]
    go_wp2
    go_ret2
    exact ⟨by rw [HL.out]; rfl, Below.refl _ _⟩
  · have hok := gr_ok hg
    have h25 := Gr.size_le hok
    have HG := Lib.hid hg
    have HL := Lib.hid (show crL ss F = ((gr ss).crN F : Nat) by simp [crL, hg])
    have HAP := Lib.hid (allPaths_any ao cap ss w hx hg)
    have HCE := Lib.hid fun W (h : CellsS W ao ss) => cells_any ao cap ss W h hg
    have HLA := Lib.hid fun q W (h : CellsS W ao ss) (hq : q < (gr ss).n * (gr ss).m) => letterAt_any ao cap ss q W h hg hq
    have HFF := Lib.hid (hF hg)
    have HX := Lib.hid hx
    have HOK := Lib.hid hok
    clear hx hsz hF hg hok
    go_enter Try.func30, Try.ntmps30
    go_wp2_with fail
    refine HGI.out.mono ?_
    rintro e w2 ⟨rfl, rfl⟩
    rw [HG.out]
    go_wp2_with fail
    refine HAP.out.mono ?_
    rintro e w3 ⟨B, n, f, v, Z, rfl, stm, hz, -, hro⟩
    obtain ⟨va, vc, rfl⟩ := RL_shape (stm.st.own _ List.mem_cons_self)
    have HB3 := Lib.hid stm.st.below
    have HID := Lib.hid stm.ids
    have HRO := Lib.hid hro
    clear stm hz hro HAP HGI
    go_wp2_with fail
    refine (HCE.out _ (HX.out.below HB3.out (Nat.le_refl _))).mono ?_
    rintro e w4 ⟨rfl, rfl⟩
    have HN : Hid ((gr ss).crN F = cntN (fun c => (gr ss).crB c && F c) ((gr ss).n * (gr ss).m)) := rfl
    have HSU : Hid (∀ c, cntN (fun c => (gr ss).crB c && F c) (c + 1) = cntN (fun c => (gr ss).crB c && F c) c + if ((gr ss).crB c && F c) = true then 1 else 0) := fun c => rfl
    have HCB : Hid (∀ c, cntN (fun c => (gr ss).crB c && F c) c ≤ c) := fun c => cntN_le _ _
    have H0 : Hid (cntN (fun c => (gr ss).crB c && F c) 0 = 0) := rfl
    generalize hcn : cntN (fun c => (gr ss).crB c && F c) = cn at *
    clear hcn
    have HVV : Hid (∀ q d, q < (gr ss).n * (gr ss).m → d < 4 → (gr ss).val (q, d)) := fun q d hq hd => ⟨hq, hd⟩
    have HRN : Hid ((gr ss).RoundOk ((gr ss).repsTo (4 * ((gr ss).n * (gr ss).m))) [] f → (gr ss).RoundOk ((gr ss).repsTo (4 * ((gr ss).n * (gr ss).m))) [] f) := id
    obtain ⟨RP, hRP⟩ : ∃ RP, RP = (gr ss).repsTo (4 * ((gr ss).n * (gr ss).m)) := ⟨_, rfl⟩
    have HSAM : Hid (∀ q, q < (gr ss).n * (gr ss).m → ∃ i j, f (q, 0) = some i ∧ f (q, 1) = some j ∧ 0 ≤ i ∧ 0 ≤ j ∧ i ≤ 1000 ∧ j ≤ 1000 ∧ (i = j ↔ (gr ss).Path (q, 0) (q, 1))) := fun q hq => Gr.RoundOk.same HOK.out HRO.out (x := (q, 0)) (y := (q, 1)) ⟨hq, by show 0 < 4; omega⟩ ⟨hq, by show 1 < 4; omega⟩
    have HFG : Hid (∀ q, q < (gr ss).n * (gr ss).m → ∀ i j, f (q, 0) = some i → f (q, 1) = some j → ∀ W, Below w.heap.size w W → Calls Try.prog 41 #[.int .i64 i, .int .i64 j, .pointer (some ⟨b1, 0, none⟩)] W fun e w' => e = .returned (.bool (F q)) ∧ W = w') := HFF.out f HRO.out
    clear HFF HRO HVV HRN hRP
    generalize hNM : (gr ss).n * (gr ss).m = NM at *
    clear hNM
    go_wp2_with fail
    go_loopg [8, 22] NM (fun kk v8 v22 wr => ∃ c : Nat, kk + c = NM ∧ v22 = .int .i64 c ∧ v8 = .int .i64 (cn c : Nat) ∧ Dr w3 wr)
    case atStart => exact ⟨0, by omega, rfl, by rw [H0.out]; rfl, Dr.refl _⟩
    case round =>
      obtain ⟨q, hq, rfl, rfl, hdr⟩ := hrel
      have hcq := HCB.out q
      by_cases hlt : q < NM
      · obtain ⟨i, j, fi, fj, i0, j0, i1, j1, hij⟩ := HSAM.out q hlt
        have hid2 := HID.out.below ((hdr.trans ⟨1, rfl⟩).below _)
        have k1 : (Instr.lookup 58 (.map (some B)) (.agg #[.int .i64 q, .int .i64 0]) false).run Try.prog wr.drew = .ok (.int .i64 i) wr.drew := hid2.look (q, 0) fi ⟨by show q ≤ 1000; omega, by show 0 ≤ 1000; omega⟩
        have k2 : (Instr.lookup 58 (.map (some B)) (.agg #[.int .i64 q, .int .i64 1]) false).run Try.prog wr.drew = .ok (.int .i64 j) wr.drew := hid2.look (q, 1) fj ⟨by show q ≤ 1000; omega, by show 1 ≤ 1000; omega⟩
        have HLA2 := Lib.hid (HLA.out q _ (HX.out.below (HB3.out.trans (((hdr.trans ⟨1, rfl⟩).below w3.heap.size).mono HB3.out.size)) (Nat.le_refl _)) hlt)
        have HCF := Lib.hid fun W (hb : Below w.heap.size w W) => HFG.out q hlt i j fi fj W hb
        have HDR := Lib.hid (hdr.trans ⟨1, rfl⟩)
        have hcr : (gr ss).crB q = ((gr ss).sig q == 46 && (i != j)) := by
          rw [Bool.eq_iff_iff, Gr.crB_iff, Bool.and_eq_true, beq_iff_eq, bne_iff_ne]
          exact and_congr_right fun _ => not_congr hij.symm
        have hsu := HSU.out q
        rw [hcr] at hsu
        have HSQ := Lib.hid hsu
        clear hij fi fj hid2 hdr hcr hsu
        generalize (gr ss).sig q = sg at *
        go_wp2
        go_region
        all_goals
          go_wp2_with fail
          refine HLA2.out.mono ?_
          rintro e w5 ⟨rfl, d5⟩
          have HD5 := Lib.hid (HDR.out.trans d5)
          have HB5 : Hid (Below w.heap.size w w5) := HB3.out.trans ((HD5.out.below w3.heap.size).mono HB3.out.size)
          clear d5 k1 k2
          by_cases hs : sg = 46
          · subst hs
            by_cases he : i = j
            · subst he
              have en : (i != i) = false := bne_self_eq_false _
              have hn1 : cn (q + 1) = cn q := by have := HSQ.out; simpa using this
              have HN1 := Lib.hid hn1
              clear hn1
              go_wp2_with fail
              go_roundg (gk - 1)
              case rel => exact ⟨q + 1, by omega, by go_num, by rw [HN1.out], HD5.out⟩
              case measure => omega
            · have en : (i != j) = true := bne_iff_ne.2 he
              go_wp2_with fail
              refine (HCF.out _ HB5.out).mono ?_
              rintro e w6 ⟨rfl, rfl⟩
              have hn1 : cn (q + 1) = cn q + if F q = true then 1 else 0 := by have := HSQ.out; rw [en] at this; simpa using this
              cases hFq : F q
              · rw [hFq] at hn1
                have hn2 : cn (q + 1) = cn q := hn1
                have HN1 := Lib.hid hn2
                clear hn1 hn2
                go_wp2_with fail
                go_roundg (gk - 1)
                case rel => exact ⟨q + 1, by omega, by go_num, by rw [HN1.out], HD5.out⟩
                case measure => omega
              · rw [hFq] at hn1
                have hn2 : cn (q + 1) = cn q + 1 := hn1
                have HN1 := Lib.hid hn2
                clear hn1 hn2
                go_wp2_with fail
                go_roundg (gk - 1)
                case rel => exact ⟨q + 1, by omega, by go_num, by rw [HN1.out]; go_num, HD5.out⟩
                case measure => omega
          · have en : (sg == 46) = false := beq_eq_false_iff_ne.2 hs
            have hn1 : cn (q + 1) = cn q := by have := HSQ.out; rw [en] at this; simpa using this
            have HN1 := Lib.hid hn1
            clear hn1
            go_wp2_with fail
            go_roundg (gk - 1)
            case rel => exact ⟨q + 1, by omega, by go_num, by rw [HN1.out], HD5.out⟩
            case measure => omega
      · obtain rfl : q = NM := by omega
        have HD5 := Lib.hid hdr
        clear hdr
        go_wp2_with fail
        go_ret2
        exact ⟨by rw [HL.out, HN.out]; rfl, HB3.out.trans ((HD5.out.below w3.heap.size).mono HB3.out.size)⟩

theorem clTotal_any (i j : Int) (w : World) : Calls Try.prog 31 #[.int .i64 i, .int .i64 j] w fun e w' => e = .returned (.bool true) ∧ w = w' := by
  go_enter Try.func31, Try.ntmps31
  go_wp2
  go_ret
  exact ⟨rfl, rfl⟩
theorem iCrossTotal_any (ao : Option Addr) (cap : Nat) (ss : List ByteArray) (w : World) (hx : CellsS w ao ss) (hm : ss.length ≤ maxLen) (hsz : ∀ s ∈ ss, s.size ≤ maxLen) :
    Calls Try.prog 12 #[.slice ao ss.length cap] w fun e w' => e = .returned (.tuple #[.int .i64 (crL ss (gr ss).totB), .bool (gridB ss)]) ∧ Below w.heap.size w w' := by
  have HC := Lib.hid (cross_CrossTotal_1 ao cap ss w (gr ss).totB hx hm hsz fun _ f _ q _ i j _ _ W _ => clTotal_any i j W)
  generalize crL ss (gr ss).totB = L at *
  clear hx hsz
  go_enter Try.func12, Try.ntmps12
  go_wp2_with fail
  refine HC.out.mono ?_
  rintro e w2 ⟨rfl, b⟩
  have HB := Lib.hid b
  clear b
  go_wp2
  go_ret2
  exact ⟨rfl, HB.out⟩
end Go.Proofs.Ytcigmmafmogmkaa
