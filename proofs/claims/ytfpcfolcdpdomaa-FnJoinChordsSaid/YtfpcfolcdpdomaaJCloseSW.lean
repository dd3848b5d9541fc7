/- Contract: a pairing closed, as the spec counts its rounds (JoinClose). -/
import Derived.Test.YtfpcfolcdpdomaaGlue2L
import Derived.Test.YtfpcfolcdpdomaaStS
import Derived.Deep.LoopGhost
namespace Go.Proofs.Ytfpcfolcdpdomaa
open Go.RowKit
set_option linter.unusedVariables false
set_option linter.unusedSimpArgs false

theorem St.fillAt {w0 W : World} {segs : List Seg} (h : St w0 W segs) {g n cap N : Nat} {f : Nat → Int} (i : Nat) (hi : segs[i]? = some (SI (.slice (some ⟨g, 0, none⟩) n cap) (fillN f N))) {j : Nat} (hj : j < N) :
    W.cell? ⟨g, j, none⟩ = some (.int .i64 (f j)) := by
  obtain ⟨b, off, he, hc⟩ := h.cellAt i hi (j := j) (by rw [fillN_length]; exact hj)
  cases he
  rw [Nat.zero_add, fillN_getD f hj] at hc
  exact hc

set_option maxRecDepth 100000 in
set_option maxHeartbeats 8000000 in
theorem sJoinClose_any (n m : Int) (ao : Option Addr) (cap : Nat) (xs : List Int) (w : World) (hx : CellsI w ao xs) (hm : xs.length ≤ maxLen) :
    Calls Try.prog 19 #[.int .i64 n, .int .i64 m, .slice ao xs.length cap] w fun e w' => e = .returned (.tuple #[.int .i64 (closeL n m xs), .bool (ofB n m xs)]) ∧ Below w.heap.size w w' := by
  cases hb : ofB n m xs
  · have HL := Lib.hid (show closeL n m xs = 0 by simp [closeL, hb])
    go_enter Try.func19, Try.ntmps19
    go_wp2_with (go_at_call 34; refine (l6jOf_any _ _ _ _ _ _ hx hm).mono ?_; rintro e w' ⟨rfl, rfl⟩; rw [hb])
    go_ret2
    exact ⟨by rw [HL.out] <;> rfl, Below.refl _ _⟩
  · obtain ⟨n, m, rfl, rfl, hn1, hn2, hm1, hm2, hl, hp⟩ := ofB_nat hb
    have hL : closeL n m xs = (grounds xs.length (cnx xs) (mtR n m xs.length) : Nat) := by simp [closeL, hb, closeN]
    have hG := close_glue hl hp
    have HCX : Hid (∀ x, x < xs.length → xs.getD x 0 = (cnx xs x : Int) ∧ cnx xs x < xs.length) := fun x hx => ⟨(cnx_get hp hx).1, (cnx_get hp hx).2.1⟩
    obtain ⟨b, off, rfl, hc, hbb⟩ := hx.at (i := 0) (by omega)
    have HC : Hid (∀ W, Below w.heap.size w W → ∀ x, x < xs.length → W.cell? ⟨b, off + x, none⟩ = some (.int .i64 (cnx xs x))) := fun W hW x hx => by
      rw [(hW.cell (p := ⟨b, off + x, none⟩) hbb), hc x hx, (HCX.out x hx).1]
    have HOF := Lib.hid (l6jOf_any n m (some ⟨b, off, none⟩) cap xs w hx hm)
    rw [hb] at HOF
    have HNX : Hid (∀ x, x < xs.length → cnx xs x < xs.length) := fun x hx => (HCX.out x hx).2
    have HMT : Hid (∀ x, mtTo m xs.length n x = mtI (mtR n m xs.length) x) := fun x => mtTo_all n m xs.length x
    generalize hN : xs.length = N at *
    generalize cnx xs = nx at *
    clear HCX hc hx hm hb hp hN
    rw [hL]
    clear hL
    have HG := Lib.hid hG
    have hmn : m + 2 * n ≤ N := by omega
    have hN20 : N ≤ 20 := by omega
    have hN1 : 1 ≤ N := by omega
    clear hG hl
    have STA := Lib.hid ((St.init w).addSeg (s := SI (.slice (some ⟨w.heap.size, 0, none⟩) 0 0) []) (World.ownsRow_made w #[] 0 (Nat.le_refl _) (Nat.zero_le _) rfl) ((Below.refl _ _).alloc (Nat.le_refl _) (.cells #[] 3)))
    go_enter Try.func19, Try.ntmps19
    go_wp2_with (go_at_call 34; refine HOF.out.mono ?_; rintro e w' ⟨rfl, rfl⟩)
    clear HOF
    go_loopw [9, 10] (fun v9 v10 wr => ∃ (i : Nat) (a : Option Addr) (c : Nat), i ≤ N ∧ v10 = .int .i64 i ∧ v9 = .slice a i c ∧ St w wr [SI (.slice a i c) (fillN (fun _ => -1) i)]) (fun _ v10 _ => N - (intOf v10).toNat)
    case atStart => exact ⟨0, _, _, Nat.zero_le _, rfl, rfl, STA.out⟩
    case round =>
      clear STA
      obtain ⟨i, a, c, hi, rfl, rfl, st⟩ := hrel
      by_cases hlt : i < N
      · have HS := Lib.hid (st.step ((Below.refl _ _).alloc (Nat.le_refl _) (.cells #[.int .i64 (-1)] 3)))
        clear st
        go_wp2_with (at_builtin; refine wpPushI _ rfl _ _ rfl w.heap.size _ _ (-1 : Int) _ rfl (HS.out.own _ List.mem_cons_self) rfl (cell_one_new _ _ _) (by rw [fillN_length]; omega) ?_; intro v' w4 hbec; have s5 := HS.out.became0 hbec; rw [fillN_snoc _ _ _ rfl] at s5; clear hbec)
        obtain ⟨a5, c5, hv⟩ := s5.shapeI0
        rw [fillN_length] at hv
        subst hv
        have HS5 := Lib.hid s5
        clear s5
        go_wp2
        go_roundw
        case rel => exact ⟨i + 1, a5, c5, by omega, by go_num, rfl, HS5.out⟩
        case measure => simp [intOf]; omega
      · obtain rfl : i = N := by omega
        obtain ⟨g, c', he⟩ := SI_blk (st.own _ List.mem_cons_self) (by rw [fillN_length]; omega)
        rw [fillN_length] at he
        cases he
        rw [← mtTo_zero m i] at st
        have ST := Lib.hid st
        clear st
        go_wp2_with fail
        go_loopw [11] (fun v11 wr => ∃ k : Nat, k ≤ n ∧ v11 = .int .i64 k ∧ St w wr [SI (.slice (some ⟨g, 0, none⟩) i c) (fillN (mtTo m i k) i)]) (fun v11 _ => n - (intOf v11).toNat)
        case atStart => exact ⟨0, Nat.zero_le _, rfl, ST.out⟩
        case round =>
          clear ST
          obtain ⟨k, hk, rfl, st⟩ := hrel
          by_cases hlt2 : k < n
          · obtain ⟨⟨u1, h1⟩, f1, s1⟩ := st.put0 (m + k) (by rw [fillN_length]; omega)
            have s1 := s1 ((i - 1 - k : Nat) : Int)
            obtain ⟨⟨u2, h2⟩, f2, s2⟩ := s1.put0 (i - 1 - k) (by rw [List.length_set, fillN_length]; omega)
            have s2 := s2 ((m + k : Nat) : Int)
            rw [mtTo_step hmn hlt2] at s2
            have e1 : ((i - 1 - k : Nat) : Int) = (i : Int) - 1 - k := by omega
            have e2 : ((m + k : Nat) : Int) = (m : Int) + k := by omega
            rw [e1] at h2 f2 s2
            rw [e2] at s2
            have HS2 := Lib.hid s2
            clear s1 s2 st e1 e2
            go_wp2
            go_roundw
            case rel => exact ⟨k + 1, by omega, by go_num, HS2.out⟩
            case measure => simp [intOf]; omega
          · obtain rfl : k = n := by omega
            rw [fillN_congr (g := mtI (mtR k m i)) fun x _ => HMT.out x] at st
            have ST := Lib.hid st
            clear st HMT
            generalize hmt0 : mtR k m i = mt at *
            have HMT0 := Lib.hid hmt0
            clear hmt0
            go_wp2_with (at_make; refine wpMakeB _ rfl _ _ rfl wr.heap.size i _ _ _ _ rfl rfl rfl rfl (by omega) (Nat.le_refl _) ?_; intro w5 hown hgrow; have s5 := ST.out.addSeg hown (Below.of_grown hgrow (Nat.le_refl _) (by simp)); clear hown hgrow)
            generalize wr.heap.size = G at s5 ⊢
            have ST5 := Lib.hid s5
            clear s5 ST
            go_loopw [13] (fun v13 wr => ∃ (q : Nat) (M : Nat → Bool), q ≤ i ∧ v13 = .int .i64 q ∧ St w wr [MB (.slice (some ⟨G, 0, none⟩) i i) i M, SI (.slice (some ⟨g, 0, none⟩) i c) (fillN (mtI mt) i)] ∧ Hid (GlueB i nx mt q M)) (fun v13 _ => i - (intOf v13).toNat)
            case atStart => exact ⟨0, _, Nat.zero_le _, rfl, ST5.out, Lib.hid GlueB.zero⟩
            case round =>
              clear ST5
              obtain ⟨q, M, hq, rfl, st, hM⟩ := hrel
              by_cases hlt3 : q < i
              · have hmate := st.fillAt 1 rfl hlt3
                cases hmt : mt q with
                | some z =>
                  rw [mtI_some hmt] at hmate
                  have HST := Lib.hid st
                  have HM2 := Lib.hid (GlueB.skip hM.out hmt)
                  clear st hM hmt
                  go_wp2
                  go_roundw
                  case rel => exact ⟨q + 1, M, by omega, by go_num, HST.out, HM2⟩
                  case measure => simp [intOf]; omega
                | none =>
                  rw [mtI_none hmt] at hmate
                  obtain ⟨K, yK, hK, hKe, hKn⟩ := HG.out.outer_ends hlt3 hmt
                  have hcx := HC.out _ st.below q hlt3
                  have hnq := HNX.out q hlt3
                  have HST := Lib.hid st
                  have HMT := Lib.hid hmt
                  have HKE := Lib.hid hKe
                  have HKN := Lib.hid hKn
                  clear st hmt hKe hKn
                  go_wp2_with fail
                  clear hcx hmate
                  go_loopg [14] K (fun kk v14 wq => ∃ (t y : Nat) (M : Nat → Bool), kk + t = K ∧ v14 = .int .i64 (nx y) ∧ y < i ∧ Hid (iter (gs nx mt) t q = some y) ∧ St w wq [MB (.slice (some ⟨G, 0, none⟩) i i) i M, SI (.slice (some ⟨g, 0, none⟩) i c) (fillN (mtI mt) i)] ∧ Hid (GlueBi i nx mt q t M))
                  case atStart => exact ⟨0, q, M, by omega, rfl, hlt3, Lib.hid rfl, HST.out, Lib.hid (GlueBi.start hM.out)⟩
                  case round =>
                    clear HST hM hnq
                    obtain ⟨t, y, M, hkt, rfl, hyi, hit, st, hM⟩ := hrel
                    have hny := HNX.out y hyi
                    have hmate := st.fillAt 1 rfl hny
                    have hcx := HC.out _ st.below
                    cases hz : mt (nx y) with
                    | none =>
                      rw [mtI_none hz] at hmate
                      have HD := Lib.hid (GlueBi.done HG.out hM.out hit.out hz)
                      have HST := Lib.hid st
                      clear st hM hit hz hcx
                      go_wp2
                      go_roundw
                      case rel => exact ⟨q + 1, M, by omega, by go_num, HST.out, HD⟩
                      case measure => simp [intOf]; omega
                    | some z =>
                      rw [mtI_some hz] at hmate
                      have hzi := (HG.out.mt_lt _ _ hz).2
                      have hnz := HNX.out z hzi
                      have HN2 := Lib.hid (GlueBi.next HG.out hM.out hlt3 HMT.out hit.out hz)
                      have hitz : iter (gs nx mt) (t + 1) q = some z := by
                        show (iter (gs nx mt) t q).bind (gs nx mt) = _
                        rw [hit.out]; exact hz
                      have hK1 : 1 ≤ gk := by
                        apply Nat.pos_of_ne_zero
                        intro h0
                        have e : t = K := by omega
                        have h1 := hit.out
                        rw [e, HKE.out] at h1
                        have h3 := Option.some.inj h1
                        have h2 : mt (nx yK) = none := HKN.out
                        rw [h3, hz] at h2
                        cases h2
                      have HITZ := Lib.hid hitz
                      obtain ⟨k3, k4, s6⟩ := St.mark [] [_] st (nx y) hny
                      obtain ⟨k5, k6, s7⟩ := St.mark [] [_] s6 z hzi
                      have hmate2 := s6.fillAt 1 rfl hny
                      rw [mtI_some hz] at hmate2
                      have hmate3 := s7.fillAt 1 rfl hny
                      rw [mtI_some hz] at hmate3
                      have hcz := HC.out _ s7.below z hzi
                      have HS7 := Lib.hid s7
                      clear st s6 s7 hM hit hz hitz hcx
                      generalize nx y = ny at *
                      go_wp2
                      go_roundg (gk - 1)
                      case rel => exact ⟨t + 1, z, _, by omega, rfl, hzi, HITZ, HS7.out, HN2⟩
                      case measure => omega
              · obtain rfl : q = i := by omega
                have HR0 := Lib.hid (GlueR.zero HG.out hM.out)
                have HST := Lib.hid st
                clear st hM
                go_wp2_with fail
                go_loopw [15, 16] (fun v15 v16 wr => ∃ (e cnt : Nat) (M : Nat → Bool), e ≤ q ∧ v16 = .int .i64 e ∧ v15 = .int .i64 cnt ∧ cnt ≤ e ∧ St w wr [MB (.slice (some ⟨G, 0, none⟩) q q) q M, SI (.slice (some ⟨g, 0, none⟩) q c) (fillN (mtI mt) q)] ∧ Hid (GlueR q nx mt e M) ∧ Hid (Trs (gs nx mt) nx id e cnt)) (fun _ v16 _ => q - (intOf v16).toNat)
                case atStart => exact ⟨0, 0, M, Nat.zero_le _, rfl, rfl, Nat.zero_le _, HST.out, HR0, Lib.hid Trs.zero⟩
                case round =>
                  clear HST HR0
                  obtain ⟨e, cnt, M, he, rfl, rfl, hce, st, hM, hT⟩ := hrel
                  by_cases hlt4 : e < q
                  · have hmate := st.fillAt 1 rfl hlt4
                    have hmk := MB_cell (st.own _ List.mem_cons_self) hlt4
                    have HST := Lib.hid st
                    by_cases hsk : mt e = none ∨ M e = true
                    · have HM2 := Lib.hid (GlueR.old HG.out hM.out hlt4 hsk)
                      have HT2 := Lib.hid (Trs.old HG.out.rv hT.out (fun x hx => by show x < q; omega) (GlueR.seen HG.out hM.out hsk))
                      rcases hsk with hsk | hsk
                      · rw [mtI_none hsk] at hmate
                        clear st hM hT hsk
                        go_wp2
                        go_roundw
                        case rel => exact ⟨e + 1, cnt, M, by omega, by go_num, rfl, by omega, HST.out, HM2, HT2⟩
                        case measure => simp [intOf]; omega
                      · rw [hsk] at hmk
                        have hmi : -1 ≤ mtI mt e ∧ mtI mt e ≤ 1000 := by
                          cases hz : mt e with
                          | none => rw [mtI_none hz]; omega
                          | some z => rw [mtI_some hz]; have := (HG.out.mt_lt _ _ hz).2; omega
                        generalize mtI mt e = me at *
                        clear st hM hT hsk
                        by_cases hneg : me < 0
                        · go_wp2
                          go_roundw
                          case rel => exact ⟨e + 1, cnt, M, by omega, by go_num, rfl, by omega, HST.out, HM2, HT2⟩
                          case measure => simp [intOf]; omega
                        · go_wp2
                          go_roundw
                          case rel => exact ⟨e + 1, cnt, M, by omega, by go_num, rfl, by omega, HST.out, HM2, HT2⟩
                          case measure => simp [intOf]; omega
                    · have hs1 : M e = false := by
                        cases hh : M e
                        · rfl
                        · exact absurd (.inr hh) hsk
                      obtain ⟨z0, hz0⟩ : ∃ z, mt e = some z := by
                        cases hh : mt e with
                        | none => exact absurd (.inl hh) hsk
                        | some z => exact ⟨z, rfl⟩
                      obtain ⟨hcy, hns⟩ := GlueR.new HG.out hM.out hz0 hs1
                      have HT2 := Lib.hid (Trs.new HG.out.rv hT.out (fun x hx => by show x < q; omega) hcy hns)
                      have hple : perS (gs nx mt) e ≤ q := HG.out.rv.per_le hlt4 hcy
                      have HPS := Lib.hid (perS_spec hcy)
                      have HCY := Lib.hid hcy
                      have HNS := Lib.hid hns
                      rw [mtI_some hz0] at hmate
                      rw [hs1] at hmk
                      clear st hsk hs1 hcy hns hz0 hT
                      go_wp2_with fail
                      clear hmate hmk
                      go_loopg [17] (perS (gs nx mt) e) (fun kk v17 wq => ∃ (t y : Nat) (M : Nat → Bool), kk + t = perS (gs nx mt) e ∧ v17 = .int .i64 y ∧ y < q ∧ Hid (iter (gs nx mt) t e = some y) ∧ St w wq [MB (.slice (some ⟨G, 0, none⟩) q q) q M, SI (.slice (some ⟨g, 0, none⟩) q c) (fillN (mtI mt) q)] ∧ Hid (GlueRi q nx mt e t M))
                      case atStart => exact ⟨0, e, M, by omega, rfl, hlt4, Lib.hid rfl, HST.out, Lib.hid (GlueRi.start hM.out)⟩
                      case round =>
                        clear HST hM
                        obtain ⟨t, y, M, hkt, rfl, hyq, hit, st, hM⟩ := hrel
                        have htest := GlueRi.test HG.out hM.out hlt4 HCY.out HNS.out (by omega) hit.out
                        have hmk := MB_cell (st.own _ List.mem_cons_self) hyq
                        by_cases hlt5 : t < perS (gs nx mt) e
                        · rw [htest.1 hlt5] at hmk
                          obtain ⟨z, hz⟩ := perS_def HCY.out (t := t + 1) (by omega)
                          have hz2 : mt (nx y) = some z := by
                            have h1 : (iter (gs nx mt) t e).bind (gs nx mt) = some z := hz
                            rw [hit.out] at h1
                            exact h1
                          have hzq := (HG.out.mt_lt _ _ hz2).2
                          have hny := HNX.out y hyq
                          have HN2 := Lib.hid (GlueRi.next HG.out hM.out hlt4 hit.out)
                          have HITZ := Lib.hid hz
                          obtain ⟨k3, k4, s6⟩ := St.mark [] [_] st y hyq
                          have hcy6 := HC.out _ s6.below y hyq
                          obtain ⟨k5, k6, s7⟩ := St.mark [] [_] s6 (nx y) hny
                          have hcy7 := HC.out _ s7.below y hyq
                          have hmate7 := s7.fillAt 1 rfl hny
                          rw [mtI_some hz2] at hmate7
                          have HS7 := Lib.hid s7
                          clear st s6 s7 hM hit hz hz2 htest
                          generalize nx y = ny at *
                          go_wp2
                          go_roundg (gk - 1)
                          case rel => exact ⟨t + 1, z, _, by omega, rfl, hzq, HITZ, HS7.out, HN2⟩
                          case measure => omega
                        · have ht : t = perS (gs nx mt) e := by omega
                          obtain ⟨hm1, rfl⟩ := htest.2 ht
                          rw [hm1] at hmk
                          have HD := Lib.hid (GlueRi.done HG.out (ht ▸ hM.out) HCY.out)
                          have HST := Lib.hid st
                          clear st hM hit htest hm1
                          go_wp2
                          go_roundw
                          case rel => exact ⟨y + 1, cnt + 1, M, by omega, by go_num, by go_num, by omega, HST.out, HD, HT2⟩
                          case measure => simp [intOf]; omega
                  · obtain rfl : e = q := by omega
                    have HCT := Lib.hid (HG.out.count hT.out)
                    have HB := Lib.hid st.below
                    clear st hM hT
                    go_wp2
                    go_ret2
                    exact ⟨by rw [HMT0.out, ← HCT.out]; rfl, HB.out⟩
end Go.Proofs.Ytfpcfolcdpdomaa
