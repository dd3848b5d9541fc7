/- Contracts: l3At, the reference's CrossRounds; the program's CrossRounds, CrossBeams. -/
import Derived.Test.YtcigmmafmogmkaaCrossSW
import Derived.Deep.LoopGhost
namespace Go.Proofs.Ytcigmmafmogmkaa
open Go.RowKit Go.Maps
set_option linter.unusedVariables false
set_option linter.unusedSimpArgs false

/-- At an empty cell four states are free just if no beam goes through. -/
theorem rdB_count {g : Gr} (hg : g.ok) {M : Nat → Bool} (hM : g.RoundM [] [] M) {c : Nat} (hc : c < g.n * g.m) (hs : g.sig c = 46) :
    (cntN (fun d => !M (4 * c + d)) 4 / 2 == 2) = g.rdB c := by
  have key : ∀ d, d < 4 → M (4 * c + d) = g.onB (c, d) := fun d hd => by
    have hd2 : decS (4 * c + d) = (c, d) := by
      unfold decS
      exact Prod.ext (by show (4 * c + d) / 4 = c; omega) (by show (4 * c + d) % 4 = d; omega)
    have h1 := hM (4 * c + d) (by omega)
    rw [hd2] at h1
    rw [Bool.eq_iff_iff, h1, Gr.onB_way hg ⟨hc, hd⟩]
    constructor
    · rintro (h | ⟨r, hr, _⟩ | h | h)
      · exact h
      · simp at hr
      · simp at h
      · simp at h
    · intro h; exact .inl h
  have h2 : g.onB (c, 2) = g.onB (c, 0) := by
    have := Gr.onB_rev hg (x := (c, 0)) ⟨hc, by show 0 < 4; omega⟩
    rwa [Gr.rev_dot hg hs] at this
  have h3 : g.onB (c, 3) = g.onB (c, 1) := by
    have := Gr.onB_rev hg (x := (c, 1)) ⟨hc, by show 1 < 4; omega⟩
    rwa [Gr.rev_dot hg hs] at this
  rw [cnt4_eq, key 0 (by omega), key 1 (by omega), key 2 (by omega), key 3 (by omega), h2, h3]
  unfold Gr.rdB
  cases g.onB (c, 0) <;> cases g.onB (c, 1) <;> rfl

set_option maxRecDepth 100000 in
set_option maxHeartbeats 2000000 in
theorem l3At_any (G cap N c : Nat) (M : Nat → Bool) (w : World) (hc : 4 * c + 4 ≤ N) (hN : N ≤ 100) (hM : ∀ k, k < N → w.cell? ⟨G, k, none⟩ = some (.bool (M k))) :
    Calls Try.prog 40 #[.slice (some ⟨G, 0, none⟩) N cap, .int .i64 c] w fun e w' => e = .returned (.int .i64 (cntN (fun d => !M (4 * c + d)) 4 / 2 : Nat)) ∧ w = w' := by
  have HM := Lib.hid hM
  have HSU : Hid (∀ d, cntN (fun d => !M (4 * c + d)) (d + 1) = cntN (fun d => !M (4 * c + d)) d + if (!M (4 * c + d)) = true then 1 else 0) := fun d => rfl
  have HB : Hid (∀ d, cntN (fun d => !M (4 * c + d)) d ≤ d) := fun d => cntN_le _ _
  have H0 : Hid (cntN (fun d => !M (4 * c + d)) 0 = 0) := rfl
  clear hM
  generalize cntN (fun d => !M (4 * c + d)) = cn at *
  go_enter Try.func40, Try.ntmps40
  go_wp2_with fail
  go_loopg [5, 6] 4 (fun kk v5 v6 wr => ∃ d : Nat, kk + d = 4 ∧ v6 = .int .i64 d ∧ v5 = .int .i64 (cn d : Nat) ∧ wr = w)
  case atStart => exact ⟨0, by omega, rfl, by rw [H0.out]; rfl, rfl⟩
  case round =>
    obtain ⟨d, hd, rfl, rfl, rfl⟩ := hrel
    have hb := HB.out d
    by_cases hlt : d < 4
    · have hk := HM.out (4 * c + d) (by omega)
      have hsu := HSU.out d
      cases hMM : M (4 * c + d)
      · rw [hMM] at hsu hk
        have hn : cn (d + 1) = cn d + 1 := by simpa using hsu
        have HN := Lib.hid hn
        clear hn hsu
        go_wp2
        go_roundg (gk - 1)
        case rel => exact ⟨d + 1, by omega, by go_num, by rw [HN.out]; go_num, by first | rfl | trivial⟩
        case measure => omega
      · rw [hMM] at hsu hk
        have hn : cn (d + 1) = cn d := by simpa using hsu
        have HN := Lib.hid hn
        clear hn hsu
        go_wp2
        go_roundg (gk - 1)
        case rel => exact ⟨d + 1, by omega, by go_num, by rw [HN.out], by first | rfl | trivial⟩
        case measure => omega
    · have hd4 : d = 4 := by omega
      subst hd4
      have hdv : ((cn 4 : Nat) : Int) / 2 = ((cn 4 / 2 : Nat) : Int) := by omega
      have HDV := Lib.hid hdv
      clear hdv HSU HB H0 HM
      generalize hC : cn 4 = C at *
      have HCC := Lib.hid hC
      clear hC
      go_wp2
      go_ret
      exact ⟨by rw [HCC.out]; first | rfl | exact ret_int (k := .i64) HDV.out | exact ret_int (k := .i64) HDV.out.symm, rfl⟩

set_option maxRecDepth 100000 in
set_option maxHeartbeats 8000000 in
theorem sCrossRounds_any (ao : Option Addr) (cap : Nat) (ss : List ByteArray) (w : World) (hx : CellsS w ao ss) (hm : ss.length ≤ maxLen) (hsz : ∀ s ∈ ss, s.size ≤ maxLen) :
    Calls Try.prog 18 #[.slice ao ss.length cap] w fun e w' => e = .returned (.tuple #[.int .i64 (crL ss (gr ss).rdB), .bool (gridB ss)]) ∧ Below w.heap.size w w' := by
  have HGI := Lib.hid (sGridIn_any ao cap ss w hx hm hsz)
  clear hsz
  cases hg : gridB ss
  · have HG := Lib.hid hg
    have HL := Lib.hid (show crL ss (gr ss).rdB = 0 by simp [crL, hg])
    clear hg hx
    go_enter Try.func18, Try.ntmps18
    go_wp2_with fail
    refine HGI.out.mono ?_
    rintro e w2 ⟨rfl, hd⟩
    rw [HG.out]
    have HD := Lib.hid hd
    clear hd
    go_wp2
    go_ret2
    exact ⟨by rw [HL.out]; rfl, HD.out.below _⟩
  · have hok := gr_ok hg
    have hn1 : 1 ≤ ss.length := hok.n1
    have hn5 : ss.length ≤ 5 := hok.n5
    have hm1 : 1 ≤ (rowOf ss 0).size := hok.m1
    have hm5 : (rowOf ss 0).size ≤ 5 := hok.m5
    have h25 : (gr ss).n * (gr ss).m ≤ 25 := Gr.size_le hok
    obtain ⟨b, off, rfl, hc, hbb⟩ := hx.at (i := 0) (by omega)
    have HX := Lib.hid hx
    have HG := Lib.hid hg
    have HOK := Lib.hid hok
    have HL := Lib.hid (show crL ss (gr ss).rdB = ((gr ss).crN (gr ss).rdB : Nat) by simp [crL, hg])
    have HLC := Lib.hid fun q W (h : CellsS W (some ⟨b, off, none⟩) ss) (hq : q < (gr ss).n * (gr ss).m) => l2Cell_any _ cap ss q W h hg hq
    have HLP := Lib.hid fun q W (h : CellsS W (some ⟨b, off, none⟩) ss) (hq : q < (gr ss).n * (gr ss).m) => l4Path_any _ cap ss q W h hg hq
    have HMK := Lib.hid fun W (h : CellsS W (some ⟨b, off, none⟩) ss) => l3Marks_any _ cap ss W h hg
    have HCR := Lib.hid fun q (hq : q < (gr ss).n * (gr ss).m) => Gr.crB_pass hok hq
    have HBD2 := Lib.hid fun q (hq : q < (gr ss).n * (gr ss).m) => Gr.pass_bd hok hq
    have HRC := Lib.hid fun M (hM : (gr ss).RoundM [] [] M) q (hq : q < (gr ss).n * (gr ss).m) (hs : (gr ss).sig q = 46) => rdB_count hok hM hq hs
    have q2 : (ss.length : Int) * ((rowOf ss 0).size : Int) = (((gr ss).n * (gr ss).m : Nat) : Int) := by rw [Int.natCast_mul]; rfl
    have HN : Hid ((gr ss).crN (gr ss).rdB = cntN (fun c => (gr ss).crB c && (gr ss).rdB c) ((gr ss).n * (gr ss).m)) := rfl
    have HSU : Hid (∀ c, cntN (fun c => (gr ss).crB c && (gr ss).rdB c) (c + 1) = cntN (fun c => (gr ss).crB c && (gr ss).rdB c) c + if ((gr ss).crB c && (gr ss).rdB c) = true then 1 else 0) := fun c => rfl
    have HCB : Hid (∀ c, cntN (fun c => (gr ss).crB c && (gr ss).rdB c) c ≤ c) := fun c => cntN_le _ _
    have H0 : Hid (cntN (fun c => (gr ss).crB c && (gr ss).rdB c) 0 = 0) := rfl
    clear hc hbb hx hg hok
    generalize hcn : cntN (fun c => (gr ss).crB c && (gr ss).rdB c) = cn at *
    clear hcn
    generalize hNM : (gr ss).n * (gr ss).m = NM at *
    clear hNM
    go_enter Try.func18, Try.ntmps18
    go_wp2_with fail
    refine HGI.out.mono ?_
    rintro e w2 ⟨rfl, hd⟩
    rw [HG.out]
    have HBD := Lib.hid (hd.below w.heap.size)
    clear hd HGI
    go_wp2_with fail
    refine (HMK.out _ (HX.out.below HBD.out (Nat.le_refl _))).mono ?_
    rintro e w3 ⟨G, c, M, rfl, st, hM⟩
    have HB3 : Hid (Below w.heap.size w w3) := HBD.out.trans (st.below.mono HBD.out.size)
    have HMC : Hid (∀ W, Below w3.heap.size w3 W → ∀ k, k < 4 * NM → W.cell? ⟨G, k, none⟩ = some (.bool (M k))) := fun W hb k hk => MB_cell ((st.step hb).own _ List.mem_cons_self) hk
    have HMM := Lib.hid hM
    clear st hM HBD HMK
    go_wp2_with fail
    go_loopg [4, 6] NM (fun kk v4 v6 wr => ∃ q : Nat, kk + q = NM ∧ v6 = .int .i64 q ∧ v4 = .int .i64 (cn q : Nat) ∧ Hid (Below w3.heap.size w3 wr))
    case atStart => exact ⟨0, by omega, rfl, by rw [H0.out]; rfl, Below.refl _ _⟩
    case round =>
      obtain ⟨q, hq, rfl, rfl, hbr⟩ := hrel
      have hcq := HCB.out q
      have hbw : Hid (Below w.heap.size w wr) := HB3.out.trans (hbr.out.mono HB3.out.size)
      obtain ⟨b', off', he, hcr, -⟩ := (HX.out.below hbw.out (Nat.le_refl _)).at (i := 0) (by omega)
      cases he
      have hc1 := hcr 0 (by omega)
      rw [Nat.add_zero] at hc1
      clear hcr
      generalize rowOf ss 0 = s0 at *
      by_cases hlt : q < NM
      · have HLC2 := Lib.hid (HLC.out q wr (HX.out.below hbw.out (Nat.le_refl _)) hlt)
        have HLP2 := Lib.hid fun W (h : CellsS W (some ⟨b, off, none⟩) ss) => HLP.out q W h hlt
        have hsu := HSU.out q
        rw [HCR.out q hlt] at hsu
        have HSQ := Lib.hid hsu
        have hpb := HBD2.out q hlt
        have HRC2 := Lib.hid (HRC.out M HMM.out q hlt)
        clear hsu
        generalize (gr ss).sig q = sg at *
        generalize (gr ss).passN q = pn at *
        go_wp2_with fail
        refine HLC2.out.mono ?_
        rintro e w4 ⟨rfl, d4⟩
        have HBR4 := Lib.hid (hbr.out.trans (d4.below _))
        have HB4 : Hid (Below w.heap.size w w4) := HB3.out.trans (HBR4.out.mono HB3.out.size)
        clear d4 hc1
        by_cases hs : sg = 46
        · subst hs
          have hrc := HRC2.out rfl
          go_wp2_with fail
          refine (l3At_any G c (4 * NM) q M w4 (by omega) (by omega) (HMC.out _ HBR4.out)).mono ?_
          rintro e w5 ⟨rfl, rfl⟩
          have HLM4 : Hid (cntN (fun d => !M (4 * q + d)) 4 / 2 ≤ 2) := by
            show _ ≤ _
            have := cntN_le (fun d => !M (4 * q + d)) 4
            omega
          generalize cntN (fun d => !M (4 * q + d)) 4 / 2 = T at *
          have hT : ((T : Int) == 2) = (T == 2) := by rw [Bool.eq_iff_iff, beq_iff_eq, beq_iff_eq]; omega
          cases hr : (gr ss).rdB q
          · rw [hr] at hrc
            have e3 : ((T : Int) == 2) = false := by rw [hT]; exact hrc
            have hn1 : cn (q + 1) = cn q := by have := HSQ.out; rw [hr] at this; simpa using this
            have HN1 := Lib.hid hn1
            clear hn1 hT
            go_wp2_with fail
            go_roundg (gk - 1)
            case rel => exact ⟨q + 1, by omega, by go_num, by rw [HN1.out], HBR4⟩
            case measure => omega
          · rw [hr] at hrc
            have e3 : ((T : Int) == 2) = true := by rw [hT]; exact hrc
            have HSQ2 : Hid (cn (q + 1) = cn q + if decide (pn < 2) = true then 1 else 0) := by show _ = _; have := HSQ.out; rw [hr] at this; simpa using this
            clear hT
            go_wp2_with fail
            refine (HLP2.out _ (HX.out.below HB4.out (Nat.le_refl _))).mono ?_
            rintro e w6 ⟨v, L, rfl, st, hcn, hl⟩
            obtain ⟨a, k, rfl⟩ := st.shapeI0
            have HBR6 : Hid (Below w3.heap.size w3 w6) := HBR4.out.trans (st.below.mono HBR4.out.size)
            have HST := Lib.hid st
            have HCN := Lib.hid hcn
            have HLM := Lib.hid hl
            clear st hcn hl
            go_wp2_with fail
            refine (l2Often_any a k L q _ (HST.out.cells 0 rfl) (Nat.le_trans HLM.out (by decide))).mono ?_
            rintro e w7 ⟨rfl, rfl⟩
            rw [HCN.out]
            by_cases hp : pn < 2
            · have e1 : ((pn : Int) == 1) = true := beq_iff_eq.2 (by omega)
              have hn1 : cn (q + 1) = cn q + 1 := by have := HSQ2.out; rw [decide_eq_true hp] at this; simpa using this
              have HN1 := Lib.hid hn1
              clear hn1
              go_wp2_with fail
              go_roundg (gk - 1)
              case rel => exact ⟨q + 1, by omega, by go_num, by rw [HN1.out]; go_num, HBR6⟩
              case measure => omega
            · have e1 : ((pn : Int) == 1) = false := beq_eq_false_iff_ne.2 (by omega)
              have hn1 : cn (q + 1) = cn q := by have := HSQ2.out; rw [decide_eq_false hp] at this; simpa using this
              have HN1 := Lib.hid hn1
              clear hn1
              go_wp2_with fail
              go_roundg (gk - 1)
              case rel => exact ⟨q + 1, by omega, by go_num, by rw [HN1.out], HBR6⟩
              case measure => omega
        · have en : (sg == 46) = false := beq_eq_false_iff_ne.2 hs
          have hn1 : cn (q + 1) = cn q := by have := HSQ.out; rw [en] at this; simpa using this
          have HN1 := Lib.hid hn1
          clear hn1
          go_wp2_with fail
          go_roundg (gk - 1)
          case rel => exact ⟨q + 1, by omega, by go_num, by rw [HN1.out], HBR4⟩
          case measure => omega
      · obtain rfl : q = NM := by omega
        go_wp2_with fail
        go_ret2
        exact ⟨by rw [HL.out, HN.out]; rfl, hbw.out⟩

set_option maxHeartbeats 2000000 in
theorem clRounds_any (ao : Option Addr) (cap : Nat) (ss : List ByteArray) (i j : Int) (b1 : Nat) (w : World) (hx : CellsS w ao ss) (hg : gridB ss = true) (h1 : w.cell? ⟨b1, 0, none⟩ = some (.slice ao ss.length cap)) (F : Bool) (hF : decide (min i j ≥ ((gr ss).ports : Int)) = F) :
    Calls Try.prog 41 #[.int .i64 i, .int .i64 j, .pointer (some ⟨b1, 0, none⟩)] w fun e w' => e = .returned (.bool F) ∧ w = w' := by
  have HP := Lib.hid (portMany_any ao cap ss w hx hg)
  clear hx hg
  generalize (gr ss).ports = P at *
  by_cases hij : i ≤ j
  · rw [Int.min_eq_left hij] at hF
    go_enter Try.func41, Try.ntmps41
    go_wp2_with fail
    refine HP.out.mono ?_
    rintro e w' ⟨rfl, rfl⟩
    go_wp2
    go_ret
    exact ⟨rfl, rfl⟩
  · rw [Int.min_eq_right (by omega)] at hF
    have hji : j < i := by omega
    go_enter Try.func41, Try.ntmps41
    go_wp2_with fail
    refine HP.out.mono ?_
    rintro e w' ⟨rfl, rfl⟩
    go_wp2
    go_ret
    exact ⟨rfl, rfl⟩
set_option maxHeartbeats 2000000 in
theorem clBeams_any (ao : Option Addr) (cap : Nat) (ss : List ByteArray) (i j : Int) (b1 : Nat) (w : World) (hx : CellsS w ao ss) (hg : gridB ss = true) (h1 : w.cell? ⟨b1, 0, none⟩ = some (.slice ao ss.length cap)) (F : Bool) (hF : decide (max i j < ((gr ss).ports : Int)) = F) :
    Calls Try.prog 35 #[.int .i64 i, .int .i64 j, .pointer (some ⟨b1, 0, none⟩)] w fun e w' => e = .returned (.bool F) ∧ w = w' := by
  have HP := Lib.hid (portMany_any ao cap ss w hx hg)
  clear hx hg
  generalize (gr ss).ports = P at *
  rcases Int.lt_trichotomy i j with h | rfl | h
  · rw [Int.max_eq_right (by omega)] at hF
    have hn : ¬ j ≤ i := by omega
    go_enter Try.func35, Try.ntmps35
    go_wp2_with fail
    refine HP.out.mono ?_
    rintro e w' ⟨rfl, rfl⟩
    go_wp2
    go_ret
    exact ⟨rfl, rfl⟩
  · rw [Int.max_eq_right (by omega)] at hF
    go_enter Try.func35, Try.ntmps35
    go_wp2_with fail
    refine HP.out.mono ?_
    rintro e w' ⟨rfl, rfl⟩
    go_wp2
    go_ret
    exact ⟨rfl, rfl⟩
  · rw [Int.max_eq_left (by omega)] at hF
    have hn : j ≤ i := by omega
    go_enter Try.func35, Try.ntmps35
    go_wp2_with fail
    refine HP.out.mono ?_
    rintro e w' ⟨rfl, rfl⟩
    go_wp2
    go_ret
    exact ⟨rfl, rfl⟩
set_option maxHeartbeats 2000000 in
theorem iCrossRounds_any (ao : Option Addr) (cap : Nat) (ss : List ByteArray) (w : World) (hx : CellsS w ao ss) (hm : ss.length ≤ maxLen) (hsz : ∀ s ∈ ss, s.size ≤ maxLen) :
    Calls Try.prog 19 #[.slice ao ss.length cap] w fun e w' => e = .returned (.tuple #[.int .i64 (crL ss (gr ss).rdB), .bool (gridB ss)]) ∧ Below w.heap.size w w' := by
  have hx1 : CellsS (w.alloc (.cells #[.slice ao ss.length cap] 22)) ao ss := (st_alloc (St.init w) _).oldS hx
  have hbx : (w.alloc (.cells #[.slice ao ss.length cap] 22)).cell? ⟨w.heap.size, 0, none⟩ = some (.slice ao ss.length cap) := by simp [go_sem]
  have HC := Lib.hid (cross_CrossRounds_1 ao cap ss (w.alloc (.cells #[.slice ao ss.length cap] 22)) w.heap.size (gr ss).rdB hx1 hm hsz fun hg f hro q hq i j fi fj W hb => by
    have hok := gr_ok hg
    obtain ⟨i', ei, _, _, hi⟩ := Gr.RoundOk.kind hok hro (x := (q, 0)) ⟨hq, by show 0 < 4; omega⟩
    obtain ⟨j', ej, _, _, hj⟩ := Gr.RoundOk.kind hok hro (x := (q, 1)) ⟨hq, by show 1 < 4; omega⟩
    rw [fi] at ei
    rw [fj] at ej
    cases ei
    cases ej
    refine clRounds_any ao cap ss i j _ W (hx1.below hb (Nat.le_refl _)) hg (cell_old hbx hb (Nat.le_refl _)) _ ?_
    show _ = _
    unfold Gr.rdB
    rw [Bool.eq_iff_iff, decide_eq_true_iff]
    rw [Bool.and_eq_true, Bool.not_eq_true', Bool.not_eq_true', ← Bool.not_eq_true, ← Bool.not_eq_true, ← hi, ← hj]
    omega)
  have HB0 : Hid (Below w.heap.size w (w.alloc (.cells #[.slice ao ss.length cap] 22))) := (Below.refl _ _).alloc (Nat.le_refl _) _
  have hs : w.heap.size ≤ (w.alloc (.cells #[.slice ao ss.length cap] 22)).heap.size := HB0.out.size
  generalize crL ss (gr ss).rdB = L at *
  clear hx hsz hx1
  go_enter Try.func19, Try.ntmps19
  go_wp2_with fail
  refine HC.out.mono ?_
  rintro e w2 ⟨rfl, b⟩
  have HB : Hid (Below w.heap.size w w2) := HB0.out.trans (b.mono hs)
  clear b
  go_wp2
  go_ret2
  exact ⟨rfl, HB.out⟩
set_option maxHeartbeats 2000000 in
theorem iCrossBeams_any (ao : Option Addr) (cap : Nat) (ss : List ByteArray) (w : World) (hx : CellsS w ao ss) (hm : ss.length ≤ maxLen) (hsz : ∀ s ∈ ss, s.size ≤ maxLen) :
    Calls Try.prog 15 #[.slice ao ss.length cap] w fun e w' => e = .returned (.tuple #[.int .i64 (crL ss (gr ss).bmB), .bool (gridB ss)]) ∧ Below w.heap.size w w' := by
  have hx1 : CellsS (w.alloc (.cells #[.slice ao ss.length cap] 22)) ao ss := (st_alloc (St.init w) _).oldS hx
  have hbx : (w.alloc (.cells #[.slice ao ss.length cap] 22)).cell? ⟨w.heap.size, 0, none⟩ = some (.slice ao ss.length cap) := by simp [go_sem]
  have HC := Lib.hid (cross_CrossBeams_1 ao cap ss (w.alloc (.cells #[.slice ao ss.length cap] 22)) w.heap.size (gr ss).bmB hx1 hm hsz fun hg f hro q hq i j fi fj W hb => by
    have hok := gr_ok hg
    obtain ⟨i', ei, _, _, hi⟩ := Gr.RoundOk.kind hok hro (x := (q, 0)) ⟨hq, by show 0 < 4; omega⟩
    obtain ⟨j', ej, _, _, hj⟩ := Gr.RoundOk.kind hok hro (x := (q, 1)) ⟨hq, by show 1 < 4; omega⟩
    rw [fi] at ei
    rw [fj] at ej
    cases ei
    cases ej
    refine clBeams_any ao cap ss i j _ W (hx1.below hb (Nat.le_refl _)) hg (cell_old hbx hb (Nat.le_refl _)) _ ?_
    show _ = _
    unfold Gr.bmB
    rw [Bool.eq_iff_iff, decide_eq_true_iff]
    rw [Bool.and_eq_true, ← hi, ← hj]
    omega)
  have HB0 : Hid (Below w.heap.size w (w.alloc (.cells #[.slice ao ss.length cap] 22))) := (Below.refl _ _).alloc (Nat.le_refl _) _
  have hs : w.heap.size ≤ (w.alloc (.cells #[.slice ao ss.length cap] 22)).heap.size := HB0.out.size
  generalize crL ss (gr ss).bmB = L at *
  clear hx hsz hx1
  go_enter Try.func15, Try.ntmps15
  go_wp2_with fail
  refine HC.out.mono ?_
  rintro e w2 ⟨rfl, b⟩
  have HB : Hid (Below w.heap.size w w2) := HB0.out.trans (b.mono hs)
  clear b
  go_wp2
  go_ret2
  exact ⟨rfl, HB.out⟩
end Go.Proofs.Ytcigmmafmogmkaa
