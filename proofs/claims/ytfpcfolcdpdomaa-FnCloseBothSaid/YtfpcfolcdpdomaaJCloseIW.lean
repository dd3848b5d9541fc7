/- Contract: a pairing closed, as the program counts its rounds (JoinClose). -/
import Derived.Test.YtfpcfolcdpdomaaCloseL
import Derived.Test.YtfpcfolcdpdomaaOfW
import Derived.Deep.LoopGhost
namespace Go.Proofs.Ytfpcfolcdpdomaa
open Go.RowKit Go.Maps
set_option linter.unusedVariables false
set_option linter.unusedSimpArgs false

set_option maxRecDepth 100000 in
set_option maxHeartbeats 16000000 in
theorem iJoinClose_any (n m : Int) (ao : Option Addr) (cap : Nat) (xs : List Int) (w : World) (hx : CellsI w ao xs) (hm : xs.length ≤ maxLen) :
    Calls Try.prog 20 #[.int .i64 n, .int .i64 m, .slice ao xs.length cap] w fun e w' => e = .returned (.tuple #[.int .i64 (closeL n m xs), .bool (ofB n m xs)]) ∧ Below w.heap.size w w' := by
  cases hb : ofB n m xs
  · have HL := Lib.hid (show closeL n m xs = 0 by simp [closeL, hb])
    have hmm := @run_makeMap Try.prog
    go_enter Try.func20, Try.ntmps20
    go_wp2_with (go_at_call 35; refine (pairingOk_any _ _ _ _ _ _ hx hm).mono ?_; rintro e w' ⟨rfl, rfl⟩; rw [hb])
    go_ret2
    exact ⟨by rw [HL.out] <;> rfl, Below.refl _ _⟩
  · obtain ⟨n, m, rfl, rfl, hn1, hn2, hm1, hm2, hl, hp⟩ := ofB_nat hb
    have hL : closeL n m xs = (grounds xs.length (cnx xs) (mtR n m xs.length) : Nat) := by simp [closeL, hb, closeN]
    have hG := close_glue hl hp
    have HCX : Hid (∀ x, x < xs.length → xs.getD x 0 = (cnx xs x : Int) ∧ cnx xs x < xs.length) := fun x hx => ⟨(cnx_get hp hx).1, (cnx_get hp hx).2.1⟩
    obtain ⟨b, off, rfl, hc, hbb⟩ := hx.at (i := 0) (by omega)
    have HC : Hid (∀ W, Below w.heap.size w W → ∀ x, x < xs.length → W.cell? ⟨b, off + x, none⟩ = some (.int .i64 (cnx xs x))) := fun W hW x hx => by
      rw [(hW.cell (p := ⟨b, off + x, none⟩) hbb), hc x hx, (HCX.out x hx).1]
    have HOF := Lib.hid (pairingOk_any n m (some ⟨b, off, none⟩) cap xs w hx hm)
    rw [hb] at HOF
    have HNX : Hid (∀ x, x < xs.length → cnx xs x < xs.length) := fun x hx => (HCX.out x hx).2
    have HPO := Lib.hid fun p (hp : p < xs.length) => close_place (n := n) (m := m) hl hp
    have HPT := Lib.hid fun x z (hz : mtR n m xs.length x = some z) => close_port hl hz
    have HPI := Lib.hid fun x y z z' (h1 : mtR n m xs.length x = some z) (h2 : mtR n m xs.length y = some z') (e : plR n m xs.length x = plR n m xs.length y) => plR_inj hl h1 h2 e
    have HLR := Lib.hid fun e (he : e < 2 * n) => lrR_facts hl he
    have HPB := Lib.hid fun x => plR_bd (n := n) (m := m) hl x
    have HLA := Lib.hid fun x z (hz : mtR n m xs.length x = some z) => lrR_all hl hz
    generalize hN : xs.length = N at *
    generalize cnx xs = nx at *
    clear HCX hc hx hm hb hp hN
    rw [hL]
    clear hL
    have HG := Lib.hid hG
    have hN20 : N ≤ 20 := by omega
    clear hG hl
    generalize hmt0 : mtR n m N = mt at *
    have HMT0 := Lib.hid hmt0
    generalize plR n m N = pl at *
    generalize lrR n m N = L at *
    clear hmt0
    have stM : StP w (w.alloc (.map #[] 0)) w.heap.size 0 (fun _ => none) [] := ⟨(St.init w).step ((Below.refl _ _).alloc (Nat.le_refl _) _), PlMap.made w, Nat.le_refl _, by simp⟩
    have stN := stM.addSeg (s := SI (.slice (some ⟨(w.alloc (.map #[] 0)).heap.size, 0, none⟩) 2 2) [1, 3]) (World.ownsRow_lit _ #[.int .i64 1, .int .i64 3] 2 (Nat.le_refl _) (by unfold maxLen; omega) rfl) ((Below.refl _ _).alloc (Nat.le_refl _) (.cells #[.int .i64 1, .int .i64 3] 3))
    have STN := Lib.hid stN
    have HGZ : Hid (GlueP nx mt pl L 0 fun _ => none) := fun x z hz => ⟨fun h => (by cases h), fun h => absurd h SeenL.zero⟩
    clear stM stN
    have hmm := @run_makeMap Try.prog
    go_enter Try.func20, Try.ntmps20
    go_wp2_with (go_at_call 35; refine HOF.out.mono ?_; rintro e w' ⟨rfl, rfl⟩)
    clear HOF
    try simp only [World.size_alloc] at STN ⊢
    generalize hB : w.heap.size = B at STN ⊢
    have HB := Lib.hid hB
    clear hB
    go_loopg [8, 27] 2 (fun kk v8 v27 wr => ∃ (k c nn : Nat) (f : Stt → Option Bool), kk + k = 2 ∧ v27 = .int .i64 k ∧ v8 = .int .i64 c ∧ c ≤ k * n ∧ nn ≤ 1000 * k ∧ StP w wr B nn f [SI (.slice (some ⟨B + 1, 0, none⟩) 2 2) [1, 3]] ∧ Hid (GlueP nx mt pl L (k * n) f) ∧ Hid (Trs (gs nx mt) nx L (k * n) c))
    case atStart => exact ⟨0, 0, 0, _, rfl, rfl, rfl, by omega, by omega, STN.out, by rw [Nat.zero_mul]; exact HGZ, by rw [Nat.zero_mul]; exact Lib.hid Trs.zero⟩
    case round =>
      clear STN HGZ
      obtain ⟨k, c, nn, f, hk, rfl, rfl, hc, hnn, st, hf, hT⟩ := hrel
      generalize gk = ko at *
      by_cases hlt : k < 2
      · obtain ⟨b', off', he, hside⟩ := st.st.cellAt 0 rfl (j := k) (by simpa using hlt)
        cases he
        rw [Nat.zero_add] at hside
        obtain ⟨S, hS, hS2⟩ : ∃ S : Nat, ([1, 3] : List Int).getD k 0 = S ∧ S = 1 + 2 * k := by
          have : k = 0 ∨ k = 1 := by omega
          rcases this with rfl | rfl
          · exact ⟨1, rfl, rfl⟩
          · exact ⟨3, rfl, rfl⟩
        rw [hS] at hside
        have HST := Lib.hid st
        have hSb1 : 1 ≤ S := by omega
        have hSb3 : S ≤ 3 := by omega
        have HS2 := Lib.hid hS2
        have hdk : decide ((k : Int) < 2) = true := decide_eq_true (by omega)
        clear st hS hS2
        go_wp2_with fail
        clear hside
        go_loopg [8, 32] n (fun kk v8 v32 wr => ∃ (q c nn : Nat) (f : Stt → Option Bool), kk + q = n ∧ v32 = .int .i64 q ∧ v8 = .int .i64 c ∧ c ≤ k * n + q ∧ nn ≤ 1000 * k + 100 * q ∧ StP w wr B nn f [SI (.slice (some ⟨B + 1, 0, none⟩) 2 2) [1, 3]] ∧ Hid (GlueP nx mt pl L (k * n + q) f) ∧ Hid (Trs (gs nx mt) nx L (k * n + q) c))
        case atStart => exact ⟨0, c, nn, f, rfl, rfl, rfl, by omega, by omega, HST.out, hf, hT⟩
        case round =>
          clear HST hf hT hc hnn
          obtain ⟨q, c, nn, f, hq, rfl, rfl, hc, hnn, st, hf, hT⟩ := hrel
          have hkn : k * n ≤ n := by
            have : k = 0 ∨ k = 1 := by omega
            rcases this with rfl | rfl <;> omega
          by_cases hlt2 : q < n
          · have hen : k * n + q < 2 * n := by omega
            obtain ⟨hLN, ⟨z0, hz0⟩, hpl⟩ := HLR.out _ hen
            have hpl2 : pl (L (k * n + q)) = (S, q) := by
              have hS2 := HS2.out
              rw [hpl]
              have : k = 0 ∨ k = 1 := by omega
              rcases this with rfl | rfl
              · rw [if_pos (by omega)]; refine Prod.ext ?_ ?_
                · show 1 = S; omega
                · show 0 * n + q = q; omega
              · rw [if_neg (by omega)]; refine Prod.ext ?_ ?_
                · show 3 = S; omega
                · show 1 * n + q - n = q; omega
            have hLv : ∀ e, e ≤ k * n + q → L e < N := fun e he => (HLR.out e (by omega)).1
            have HLV := Lib.hid hLv
            have hseen := hf.out _ _ hz0
            rw [hpl2] at hseen
            have s1 := st.addSeg (PB_new wr (S, q)) ((Below.refl _ _).alloc (Nat.le_refl _) (.cells #[.int .i64 S, .int .i64 q] 54))
            obtain ⟨k0, k1, -, -, -, -⟩ := PB_cells (s1.st.own _ List.mem_cons_self)
            have HS1 := Lib.hid s1
            have HZ0 := Lib.hid hz0
            have HPL := Lib.hid hpl2
            clear st s1 hpl hpl2 hLv hz0
            generalize hE : L (k * n + q) = E at *
            have HE := Lib.hid hE
            clear hE
            generalize gk = kr at *
            by_cases hsn : ((f (S, q)).getD false) = true
            · have hold := hseen.1 hsn
              have HF2 := Lib.hid (GlueP.old HG.out hf.out HLV.out (by rw [HE.out]; exact fun _ => hold))
              have HT2 := Lib.hid (Trs.old HG.out.rv hT.out HLV.out (by rw [HE.out]; exact fun _ => hold))
              have HS3 := Lib.hid (HS1.out.sub (List.sublist_cons_self _ _))
              have HSN := Lib.hid hsn
              clear hold hf hT hseen hsn
              go_wp2_with (at_lookup; refine wpLookPl _ rfl _ _ rfl HS1.out (S, q) rfl rfl ⟨by show S ≤ 1000; omega, by show q ≤ 1000; omega⟩ ?_; rw [HSN.out])
              go_roundg (kr - 1)
              case rel => exact ⟨q + 1, c, nn, f, by omega, by go_num, rfl, by omega, by omega, HS3.out, by rw [← Nat.add_assoc]; exact HF2, by rw [← Nat.add_assoc]; exact HT2⟩
              case measure => omega
            · have hsf : ((f (S, q)).getD false) = false := by simpa using hsn
              have hns : ¬ SeenL (gs nx mt) nx L (k * n + q) E := fun h => hsn (hseen.2 h)
              have HNS := Lib.hid hns
              have HSF := Lib.hid hsf
              clear hseen hsn hns hsf
              have s2 := HS1.out.addSeg (s := SPl (.slice (some ⟨(wr.alloc (.cells #[.int .i64 S, .int .i64 q] 54)).heap.size, 0, none⟩) 0 0) []) (World.ownsRow_made _ #[] 0 (Nat.le_refl _) (Nat.zero_le _) rfl) ((Below.refl _ _).alloc (Nat.le_refl _) (.cells #[] 54))
              have s3 := s2.addSeg (PB_new ((wr.alloc (.cells #[.int .i64 S, .int .i64 q] 54)).alloc (.cells #[] 54)) (S, q)) ((Below.refl _ _).alloc (Nat.le_refl _) (.cells #[.int .i64 S, .int .i64 q] 54))
              simp only [World.size_alloc] at s3
              have HS3 := Lib.hid s3
              clear s2 s3
              go_wp2_with (at_lookup; refine wpLookPl _ rfl _ _ rfl HS1.out (S, q) rfl rfl ⟨by show S ≤ 1000; omega, by show q ≤ 1000; omega⟩ ?_; rw [HSF.out])
              clear HS1 k0 k1 HSF
              generalize hG3 : wr.heap.size = G3 at HS3 ⊢
              have HG3 := Lib.hid hG3
              clear hG3
              go_loopg [8, 14, 15] N (fun kk v8 v14 v15 wq => ∃ (t y g15 : Nat) (a14 : Option Addr) (c14 : Nat), kk + t = N ∧ v8 = .int .i64 c ∧ v14 = .slice a14 (2 * t) c14 ∧ v15 = .pointer (some ⟨g15, 0, none⟩) ∧ y < N ∧ Hid (iter (gs nx mt) t E = some y) ∧ Hid (∀ u, 0 < u → u ≤ t → iter (gs nx mt) u E ≠ some E) ∧ Hid (∃ z, mt y = some z) ∧ StP w wq B nn f [PB g15 (pl y), SPl (.slice a14 (2 * t) c14) ((metI nx mt E t).map pl), PB G3 (S, q), SI (.slice (some ⟨B + 1, 0, none⟩) 2 2) [1, 3]])
              case atStart => exact ⟨0, E, _, _, _, rfl, rfl, rfl, rfl, hLN, Lib.hid rfl, Lib.hid (fun u h1 h2 => by omega), Lib.hid ⟨z0, HZ0.out⟩, by rw [HPL.out]; exact HS3.out⟩
              case round =>
                clear HS3
                obtain ⟨t, y, g15, a14, c14, hkt, rfl, rfl, rfl, hy, hit, hnr, hmy, st⟩ := hrel
                obtain ⟨z1, hz1⟩ := hmy.out
                have hpt := HPT.out y z1 hz1
                obtain ⟨hp13, hpn⟩ := HPB.out y
                have hny := HNX.out y hy
                have hml := metI_length nx mt E t
                have HML := Lib.hid hml
                generalize hpy : pl y = py at *
                have HPY := Lib.hid hpy
                obtain ⟨p1, p2⟩ := py
                obtain ⟨k0, k1, f0, f1, -, -⟩ := PB_cells (st.st.own _ List.mem_cons_self)
                have HST := Lib.hid st
                dsimp only at *
                clear st hmy hz1 hpy hml
                go_wp2_with fail
                refine (portOf_any n m p1 p2 _ (by omega) (by omega) (by omega) (by omega) (by omega) (by omega)).mono ?_
                rintro e w2 ⟨rfl, b2⟩
                rw [hpt]
                have HS2' := Lib.hid (HST.out.step b2)
                have hcx := HC.out _ HS2'.out.st.below y hy
                clear HST b2 k0 k1 f0 f1 hpt
                go_wp2_with fail
                refine (placeOf_any n m (nx y) _ (by omega) (by omega) (by omega) (by omega) (by omega) (by omega)).mono ?_
                rintro e w3 ⟨rfl, b3⟩
                have HS3 := Lib.hid (HS2'.out.step b3)
                clear HS2' b3 hcx
                rcases HPO.out (nx y) hny with ⟨hno, hside⟩ | ⟨z, hz, hs, ha, hplz, h13, hlt5⟩
                · have hnc : ¬ Cyc (gs nx mt) E := fun c => by
                    obtain ⟨u, hu⟩ := cyc_next (c.on ⟨t, hit.out⟩).2
                    have : mt (nx y) = some u := hu
                    rw [hno] at this
                    cases this
                  have HF2 := Lib.hid (GlueP.old HG.out hf.out HLV.out (by rw [HE.out]; exact fun c => absurd c hnc))
                  have HT2 := Lib.hid (Trs.old HG.out.rv hT.out HLV.out (by rw [HE.out]; exact fun c => absurd c hnc))
                  generalize atI n m (nx y) = aa at *
                  generalize sideI n m (nx y) = sd at *
                  have HS4 := Lib.hid ((HS3.out.step ((Below.refl _ _).alloc (Nat.le_refl _) (.cells #[.int .i64 sd, .int .i64 aa] 54))).sub (b := [SI (.slice (some ⟨B + 1, 0, none⟩) 2 2) [1, 3]]) (by simp))
                  clear HS3 hf hT hno hnc
                  rcases hside with rfl | rfl
                  all_goals
                    go_wp2
                    go_roundg (kr - 1)
                    case rel => exact ⟨q + 1, c, nn, f, by omega, by go_num, rfl, by omega, by omega, HS4.out, by rw [← Nat.add_assoc]; exact HF2, by rw [← Nat.add_assoc]; exact HT2⟩
                    case measure => omega
                · rw [hs, ha]
                  have hitz : iter (gs nx mt) (t + 1) E = some z := by
                    show (iter (gs nx mt) t E).bind (gs nx mt) = _
                    rw [hit.out]; exact hz
                  have hzb := HPB.out (nx y)
                  have hzN := (HG.out.mt_lt _ _ hz).2
                  have hmz := HG.out.mt_mt _ _ hz
                  have hms := metI_succ hit.out
                  have hms2 : (metI nx mt E t).map pl ++ [(p1, p2), pl (nx y)] = (metI nx mt E (t + 1)).map pl := by
                    rw [hms, List.map_append, ← HPY.out]; rfl
                  generalize hpa : pl (nx y) = pa at *
                  obtain ⟨a1, a2⟩ := pa
                  dsimp only at *
                  have HMS := Lib.hid hms2
                  have HITZ := Lib.hid hitz
                  have HPZ := Lib.hid hplz
                  have HMZ : Hid (∃ z', mt z = some z') := ⟨_, hmz⟩
                  have s4 := HS3.out.addSeg (PB_new w3 (a1, a2)) ((Below.refl _ _).alloc (Nat.le_refl _) (.cells #[.int .i64 a1, .int .i64 a2] 54))
                  have s5 := s4.step ((Below.refl _ _).alloc (Nat.le_refl _) (.cells #[.int .i64 p1, .int .i64 p2, .int .i64 a1, .int .i64 a2] 54))
                  obtain ⟨k0, k1, f0, f1, -, -⟩ := PB_cells (s4.st.own _ List.mem_cons_self)
                  obtain ⟨k2, k3, f2, f3, -, -⟩ := PB_cells (s4.st.own (PB g15 (p1, p2)) (by simp))
                  have HS5 := Lib.hid s5
                  have hea : ((4 - a1 : Nat) : Int) = 4 - (a1 : Int) := by omega
                  have HEA := Lib.hid hea
                  clear s4 s5 HS3 hs ha hplz hz hitz hmz hms hms2 hpa hea
                  have e7 : ((a1 : Int) == 0) = false := beq_eq_false_iff_ne.2 (by omega)
                  have e8 : ((a1 : Int) == 2) = false := beq_eq_false_iff_ne.2 (by omega)
                  have HML2 := Lib.hid (metI_length nx mt E (t + 1))
                  by_cases hzE : z = E
                  · subst hzE
                    have hsq : 4 - a1 = S ∧ a2 = q := by
                      have h1 := HPZ.out
                      rw [HPL.out] at h1
                      exact ⟨(congrArg Prod.fst h1).symm, (congrArg Prod.snd h1).symm⟩
                    have e5 : ((4 : Int) - a1 == (S : Int)) = true := beq_iff_eq.2 (by omega)
                    have e6 : ((a2 : Int) == (q : Int)) = true := beq_iff_eq.2 (by omega)
                    obtain ⟨hcy, hper⟩ := perS_eq (by omega) HITZ.out fun u h1 h2 => hnr.out u h1 (by omega)
                    have hgn := GlueP.new HG.out hf.out (by rw [HE.out]; exact hLN) HPI.out (by rw [HE.out]; exact hcy)
                    have htn := Trs.new HG.out.rv hT.out HLV.out (by rw [HE.out]; exact hcy) (by rw [HE.out]; exact HNS.out)
                    rw [HE.out, hper] at hgn
                    have HF2 := Lib.hid hgn
                    have HT2 := Lib.hid htn
                    have hwl := HG.out.way_le hLN hit.out hnr.out
                    clear hsq hcy hper hgn htn hf hT hit hnr
                    go_wp2_with (at_builtin; refine wpPush2Pl _ rfl _ _ rfl w.heap.size _ ((metI nx mt z t).map pl) (p1, p2) (a1, a2) _ rfl (HS5.out.st.own (SPl (.slice a14 (2 * t) c14) ((metI nx mt z t).map pl)) (by simp)) rfl (four_new' (w3.alloc (.cells #[.int .i64 a1, .int .i64 a2] 54)) _ (by simp) _ _ _ _ _) (by rw [List.length_map, HML.out]; omega) ?_; intro v' w6 hbec; have s6 : StP w w6 B nn f [PB w3.heap.size (a1, a2), PB g15 (p1, p2), SPl v' ((metI nx mt z t).map pl ++ [(p1, p2), (a1, a2)]), PB G3 (S, q), SI (.slice (some ⟨B + 1, 0, none⟩) 2 2) [1, 3]] := HS5.out.became [_, _] _ _ _ hbec; rw [HMS.out] at s6; obtain ⟨a6, c6, hv6, -⟩ := SPl_shape (s6.st.own (SPl v' ((metI nx mt z (t + 1)).map pl)) (by simp)); rw [List.length_map, HML2.out] at hv6; subst hv6; obtain ⟨c0, c1, fr0, fr1, -, -⟩ := PB_cells (s6.st.own (PB w3.heap.size (a1, a2)) (by simp)); obtain ⟨c2, c3, fr2, fr3, -, -⟩ := PB_cells (s6.st.own (PB g15 (p1, p2)) (by simp)); have s7 : StP w _ B nn f [PB w3.heap.size (a1, a2), PB g15 (4 - a1, a2), SPl (.slice a6 (2 * (t + 1)) c6) ((metI nx mt z (t + 1)).map pl), PB G3 (S, q), SI (.slice (some ⟨B + 1, 0, none⟩) 2 2) [1, 3]] := s6.put [_] _ (4 - a1, a2); obtain ⟨d0, d1, fs0, fs1, -, -⟩ := PB_cells (s7.st.own (PB g15 (4 - a1, a2)) (by simp)); obtain ⟨d2, d3, -, -, -, -⟩ := PB_cells (s7.st.own (PB G3 (S, q)) (by simp)); dsimp only at d0 d1 s7; rw [HEA.out] at d0 d1 d2 d3 s7; have HS7 := Lib.hid s7; clear hbec s6 s7)
                    generalize hl4 : (metI nx mt z (t + 1)).map pl = l4 at *
                    have hl4len : l4.length = 2 * (t + 1) := by rw [← hl4, List.length_map]; exact HML2.out
                    have hl4b : ∀ y ∈ l4, y.1 ≤ 3 ∧ y.2 ≤ N := fun y hy => by
                      rw [← hl4] at hy
                      obtain ⟨x, _, rfl⟩ := List.mem_map.1 hy
                      exact HPB.out x
                    have HL4B := Lib.hid hl4b
                    have HL4 := Lib.hid hl4len
                    have HS8 := Lib.hid (HS7.out.sub (b := [SPl (.slice a6 (2 * (t + 1)) c6) l4, SI (.slice (some ⟨B + 1, 0, none⟩) 2 2) [1, 3]]) (by simp))
                    clear hl4 hl4b hl4len HS7 c0 c1 c2 c3 fr0 fr1 fr2 fr3 d0 d1 d2 d3 fs0 fs1 HMS
                    go_loopg [79] (2 * (t + 1)) (fun kk v79 wq => ∃ i, kk + i = 2 * (t + 1) ∧ v79 = .int .i64 i ∧ StP w wq B (nn + i) (putP1 f (l4.take i)) [SPl (.slice a6 (2 * (t + 1)) c6) l4, SI (.slice (some ⟨B + 1, 0, none⟩) 2 2) [1, 3]])
                    case atStart => exact ⟨0, by omega, rfl, by rw [List.take_zero]; exact HS8.out⟩
                    case round =>
                      clear HS8
                      obtain ⟨i, hki, rfl, st⟩ := hrel
                      by_cases hil : i < 2 * (t + 1)
                      · have hil4 : i < l4.length := by rw [HL4.out]; exact hil
                        obtain ⟨bk, o4, rfl, hc8, hd8⟩ := (SPl_cells (st.st.own _ List.mem_cons_self)) i hil4
                        have hget : l4[i]? = some (l4.getD i (0, 0)) := by
                          rw [List.getD_eq_getElem?_getD, List.getElem?_eq_getElem hil4]; rfl
                        have hyb := HL4B.out _ (List.mem_of_getElem? hget)
                        have hps := putP1_succ f l4 hget
                        generalize l4.getD i (0, 0) = y4 at hc8 hd8 hget hyb hps
                        have HPS := Lib.hid hps
                        have HS9 := Lib.hid (st.step ((Below.refl _ _).alloc (Nat.le_refl _) (.cells #[.int .i64 y4.1, .int .i64 y4.2] 54)))
                        clear st hget hps
                        go_wp2_with (at_mapUpdate; refine wpStorePl _ rfl _ _ _ rfl HS9.out (by omega) y4 true rfl rfl rfl ⟨by omega, by omega⟩ ?_; intro w9 st9; rw [HPS.out] at st9; have HS10 := Lib.hid st9; clear st9)
                        go_roundg (gk - 1)
                        case rel => exact ⟨i + 1, by omega, by go_num, HS10.out⟩
                        case measure => omega
                      · obtain rfl : i = 2 * (t + 1) := by omega
                        have hs11 := st.sub (b := [SI (.slice (some ⟨B + 1, 0, none⟩) 2 2) [1, 3]]) (by simp)
                        rw [List.take_of_length_le (by rw [HL4.out]; exact Nat.le_refl _)] at hs11
                        have HS11 := Lib.hid hs11
                        clear st hs11
                        go_wp2
                        go_roundg (kr - 1)
                        case rel => exact ⟨q + 1, c + 1, _, putP1 f l4, by omega, by go_num, by go_num, by omega, by omega, HS11.out, by rw [← Nat.add_assoc]; exact HF2, by rw [← Nat.add_assoc]; exact HT2⟩
                        case measure => omega
                  · have hne : ¬ ((4 : Int) - a1 = S) ∨ ((4 : Int) - a1 = S ∧ ¬ ((a2 : Int) = q)) := by
                      by_cases h1 : (4 : Int) - a1 = S
                      · refine .inr ⟨h1, fun h2 => hzE ?_⟩
                        obtain ⟨z', hz'⟩ := HMZ.out
                        refine HPI.out z E z' z0 hz' HZ0.out ?_
                        rw [HPZ.out, HPL.out]
                        exact Prod.ext (by show 4 - a1 = S; omega) (by show a2 = q; omega)
                      · exact .inl h1
                    have hnr2 : ∀ u, 0 < u → u ≤ t + 1 → iter (gs nx mt) u E ≠ some E := fun u h1 h2 h3 => by
                      by_cases e : u = t + 1
                      · subst e
                        rw [HITZ.out] at h3
                        exact hzE (Option.some.inj h3)
                      · exact hnr.out u h1 (by omega) h3
                    have hwl := HG.out.way_le hLN HITZ.out hnr2
                    have HNR2 := Lib.hid hnr2
                    clear hnr hnr2 hit
                    rcases hne with hne | ⟨hne1, hne⟩
                    · have e5 : ((4 : Int) - a1 == (S : Int)) = false := beq_eq_false_iff_ne.2 hne
                      clear hne
                      go_wp2_with (at_builtin; refine wpPush2Pl _ rfl _ _ rfl w.heap.size _ ((metI nx mt E t).map pl) (p1, p2) (a1, a2) _ rfl (HS5.out.st.own (SPl (.slice a14 (2 * t) c14) ((metI nx mt E t).map pl)) (by simp)) rfl (four_new' (w3.alloc (.cells #[.int .i64 a1, .int .i64 a2] 54)) _ (by simp) _ _ _ _ _) (by rw [List.length_map, HML.out]; omega) ?_; intro v' w6 hbec; have s6 : StP w w6 B nn f [PB w3.heap.size (a1, a2), PB g15 (p1, p2), SPl v' ((metI nx mt E t).map pl ++ [(p1, p2), (a1, a2)]), PB G3 (S, q), SI (.slice (some ⟨B + 1, 0, none⟩) 2 2) [1, 3]] := HS5.out.became [_, _] _ _ _ hbec; rw [HMS.out] at s6; obtain ⟨a6, c6, hv6, -⟩ := SPl_shape (s6.st.own (SPl v' ((metI nx mt E (t + 1)).map pl)) (by simp)); rw [List.length_map, HML2.out] at hv6; subst hv6; obtain ⟨c0, c1, fr0, fr1, -, -⟩ := PB_cells (s6.st.own (PB w3.heap.size (a1, a2)) (by simp)); obtain ⟨c2, c3, fr2, fr3, -, -⟩ := PB_cells (s6.st.own (PB g15 (p1, p2)) (by simp)); have s7 : StP w _ B nn f [PB w3.heap.size (a1, a2), PB g15 (4 - a1, a2), SPl (.slice a6 (2 * (t + 1)) c6) ((metI nx mt E (t + 1)).map pl), PB G3 (S, q), SI (.slice (some ⟨B + 1, 0, none⟩) 2 2) [1, 3]] := s6.put [_] _ (4 - a1, a2); obtain ⟨d0, d1, fs0, fs1, -, -⟩ := PB_cells (s7.st.own (PB g15 (4 - a1, a2)) (by simp)); obtain ⟨d2, d3, -, -, -, -⟩ := PB_cells (s7.st.own (PB G3 (S, q)) (by simp)); dsimp only at d0 d1 s7; rw [HEA.out] at d0 d1 d2 d3 s7; have HS7 := Lib.hid s7; clear hbec s6 s7)
                      have s8 := HS7.out.addSeg (PB_new _ (4 - a1, a2)) ((Below.refl _ _).alloc (Nat.le_refl _) (.cells #[.int .i64 (4 - a1 : Nat), .int .i64 a2] 54))
                      dsimp only at s8
                      rw [HEA.out] at s8
                      have hsz : ∀ (u v : Value), ((w6.setCell ⟨g15, 0, none⟩ u).setCell ⟨g15, 1, none⟩ v).heap.size = w6.heap.size := fun u v => by simp
                      rw [hsz] at s8
                      have HS8 := Lib.hid (s8.sub (List.Sublist.cons_cons _ (List.Sublist.cons _ (List.Sublist.cons _ (List.Sublist.refl _)))))
                      clear s8 HS7
                      go_roundg (gk - 1)
                      case rel => exact ⟨t + 1, z, _, a6, c6, by omega, rfl, rfl, rfl, hzN, HITZ, HNR2, HMZ, by rw [HPZ.out]; exact HS8.out⟩
                      case measure => omega
                    · have e5 : ((4 : Int) - a1 == (S : Int)) = true := beq_iff_eq.2 hne1
                      have e6 : ((a2 : Int) == (q : Int)) = false := beq_eq_false_iff_ne.2 hne
                      clear hne hne1
                      go_wp2_with (at_builtin; refine wpPush2Pl _ rfl _ _ rfl w.heap.size _ ((metI nx mt E t).map pl) (p1, p2) (a1, a2) _ rfl (HS5.out.st.own (SPl (.slice a14 (2 * t) c14) ((metI nx mt E t).map pl)) (by simp)) rfl (four_new' (w3.alloc (.cells #[.int .i64 a1, .int .i64 a2] 54)) _ (by simp) _ _ _ _ _) (by rw [List.length_map, HML.out]; omega) ?_; intro v' w6 hbec; have s6 : StP w w6 B nn f [PB w3.heap.size (a1, a2), PB g15 (p1, p2), SPl v' ((metI nx mt E t).map pl ++ [(p1, p2), (a1, a2)]), PB G3 (S, q), SI (.slice (some ⟨B + 1, 0, none⟩) 2 2) [1, 3]] := HS5.out.became [_, _] _ _ _ hbec; rw [HMS.out] at s6; obtain ⟨a6, c6, hv6, -⟩ := SPl_shape (s6.st.own (SPl v' ((metI nx mt E (t + 1)).map pl)) (by simp)); rw [List.length_map, HML2.out] at hv6; subst hv6; obtain ⟨c0, c1, fr0, fr1, -, -⟩ := PB_cells (s6.st.own (PB w3.heap.size (a1, a2)) (by simp)); obtain ⟨c2, c3, fr2, fr3, -, -⟩ := PB_cells (s6.st.own (PB g15 (p1, p2)) (by simp)); have s7 : StP w _ B nn f [PB w3.heap.size (a1, a2), PB g15 (4 - a1, a2), SPl (.slice a6 (2 * (t + 1)) c6) ((metI nx mt E (t + 1)).map pl), PB G3 (S, q), SI (.slice (some ⟨B + 1, 0, none⟩) 2 2) [1, 3]] := s6.put [_] _ (4 - a1, a2); obtain ⟨d0, d1, fs0, fs1, -, -⟩ := PB_cells (s7.st.own (PB g15 (4 - a1, a2)) (by simp)); obtain ⟨d2, d3, -, -, -, -⟩ := PB_cells (s7.st.own (PB G3 (S, q)) (by simp)); dsimp only at d0 d1 s7; rw [HEA.out] at d0 d1 d2 d3 s7; have HS7 := Lib.hid s7; clear hbec s6 s7)
                      have s8 := HS7.out.addSeg (PB_new _ (4 - a1, a2)) ((Below.refl _ _).alloc (Nat.le_refl _) (.cells #[.int .i64 (4 - a1 : Nat), .int .i64 a2] 54))
                      dsimp only at s8
                      rw [HEA.out] at s8
                      have hsz : ∀ (u v : Value), ((w6.setCell ⟨g15, 0, none⟩ u).setCell ⟨g15, 1, none⟩ v).heap.size = w6.heap.size := fun u v => by simp
                      rw [hsz] at s8
                      have HS8 := Lib.hid (s8.sub (List.Sublist.cons_cons _ (List.Sublist.cons _ (List.Sublist.cons _ (List.Sublist.refl _)))))
                      clear s8 HS7
                      go_roundg (gk - 1)
                      case rel => exact ⟨t + 1, z, _, a6, c6, by omega, rfl, rfl, rfl, hzN, HITZ, HNR2, HMZ, by rw [HPZ.out]; exact HS8.out⟩
                      case measure => omega
          · obtain rfl : q = n := by omega
            have HST := Lib.hid st
            have hkk : k * q + q = (k + 1) * q := (Nat.succ_mul _ _).symm
            rw [hkk] at hf hT hc
            clear st
            go_wp2
            go_roundg (ko - 1)
            case rel => exact ⟨k + 1, c, nn, f, by omega, by go_num, rfl, hc, by omega, HST.out, hf, hT⟩
            case measure => omega
      · obtain rfl : k = 2 := by omega
        have hall : ∀ x, x < N → Cyc (gs nx mt) x → ∃ e, e < 2 * n ∧ Proofs.Ytfpcfolcdpdomaa.Same (gs nx mt) nx x (L e) := fun x hx c => by
          obtain ⟨z, hz⟩ := HG.out.cyc_mt c
          obtain ⟨e, he, rfl⟩ := HLA.out x z hz
          exact ⟨e, he, .inl (On.refl _ _)⟩
        have HCT := Lib.hid (Trs.num HG.out.rv hT.out (fun e he => (HLR.out e he).1) hall HG.out.num)
        have HBL := Lib.hid st.st.below
        clear st hf hT hall
        go_wp2
        go_ret2
        exact ⟨by first | (rw [HMT0.out, ← HCT.out]; rfl) | (rw [← HCT.out]; rfl), by first | exact HBL.out | (rw [HB.out] at HBL ⊢; exact HBL.out)⟩
end Go.Proofs.Ytfpcfolcdpdomaa
