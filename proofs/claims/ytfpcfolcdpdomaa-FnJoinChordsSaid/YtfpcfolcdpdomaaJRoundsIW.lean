/- Contract: two pairings joined, as the program counts the rounds that come (rounds). -/
import Derived.Test.YtfpcfolcdpdomaaJStepW
import Derived.Test.YtfpcfolcdpdomaaJRoundL
import Derived.Test.YtfpcfolcdpdomaaJPairsIW
import Derived.Deep.LoopGhost
namespace Go.Proofs.Ytfpcfolcdpdomaa
open Go.RowKit
set_option linter.unusedVariables false
set_option linter.unusedSimpArgs false

theorem one_new' (w : World) (g : Nat) (hg : g = w.heap.size) (u : Value) (ty : TypeId) : ∀ (j : Nat) (v : Value), [u][j]? = some v → (w.alloc (.cells #[u] ty)).cell? ((⟨g, 0, none⟩ : Addr).add j) = some v := by
  subst hg
  exact cell_one_new w u ty

set_option maxRecDepth 100000 in
set_option maxHeartbeats 8000000 in
theorem jrounds_any (n m k : Nat) (ao : Option Addr) (cap : Nat) (xs : List Int) (bo : Option Addr) (capb : Nat) (ys : List Int) (w : World) (hx : CellsI w ao xs) (hy : CellsI w bo ys)
    (hT : Two n m k) (lx : xs.length = 2 * n + 2 * m) (ly : ys.length = 2 * n + 2 * k) (px : pairsB xs = true) (py : pairsB ys = true) :
    Calls Try.prog 32 #[.agg #[.int .i64 n, .int .i64 m, .int .i64 k, .slice ao xs.length cap, .slice bo ys.length capb]] w fun e w' => e = .returned (.int .i64 (joinN n m k xs ys : Nat)) ∧ Below w.heap.size w w' := by
  unfold joinN
  have hG := join_glue (n := n) lx ly px py
  have hn1 := hT.n1
  have hn5 := hT.n5
  have hm1 := hT.m1
  have hk1 := hT.k1
  have hmk := hT.mk5
  obtain ⟨W1, hW1⟩ : ∃ W1, W1 = w.alloc (.cells #[.int .i64 n, .int .i64 m, .int .i64 k, .slice ao xs.length cap, .slice bo ys.length capb] 46) := ⟨_, rfl⟩
  have hb1 : Below w.heap.size w W1 := by rw [hW1]; exact (Below.refl _ _).alloc (Nat.le_refl _) _
  have hz1 : W1.heap.size = w.heap.size + 1 := by rw [hW1]; simp
  have HBW := Lib.hid fun W (h : Below W1.heap.size W1 W) => hb1.trans (h.mono (by omega))
  have HTH : Hid (∀ W, Below W1.heap.size W1 W → ∀ X, X < xs.length + ys.length → Calls Try.prog 48 #[.agg #[.int .i64 n, .int .i64 m, .int .i64 k, .slice ao xs.length cap, .slice bo ys.length capb], .bool (decide (xs.length ≤ X)), .agg #[.int .i64 (plJ n m k X).1, .int .i64 (plJ n m k X).2]] W fun e w' =>
      e = .returned (.agg #[.int .i64 (plJ n m k (jnx xs ys X)).1, .int .i64 (plJ n m k (jnx xs ys X)).2]) ∧ Below W.heap.size W w') := fun W hb X hX =>
    jthru_any n m k ao cap xs bo capb ys hT lx ly px py W (hx.below (HBW.out W hb) (Nat.le_refl _)) (hy.below (HBW.out W hb) (Nat.le_refl _)) X hX
  have HCN := Lib.hid fun X (hX : X < 4 * n + 2 * m + 2 * k) hz W => jcross_none hT hX hz W
  have HCS := Lib.hid fun X z (hX : X < 4 * n + 2 * m + 2 * k) hz W => jcross_some (z := z) hT hX hz W
  have HSS := Lib.hid fun X z (hX : X < 4 * n + 2 * m + 2 * k) hz => jsec_some (z := z) hT hX hz
  have HSN := Lib.hid fun X (hX : X < xs.length + ys.length) => jsec_nx (ys := ys) px hX
  have HRH := Lib.hid fun X z (hX : X < 4 * n + 2 * m + 2 * k) hz => plJ_rho (z := z) hT hX hz
  have HPE := Lib.hid fun e (he : e < n) => plJ_L hT he
  have HPB := Lib.hid fun X (hX : X < 4 * n + 2 * m + 2 * k) => (plJ_cast hT hX).2.2
  have HJB := Lib.hid fun W (h : Below W1.heap.size W1 W) => jbox_cells w (.int .i64 n) (.int .i64 m) (.int .i64 k) (.slice ao xs.length cap) (.slice bo ys.length capb) (W := W) (by rw [← hW1]; exact h)
  rw [← lx] at HCN HCS HSS
  generalize hNN : 4 * n + 2 * m + 2 * k = N at *
  have hN1 : xs.length + ys.length = N := by omega
  rw [hN1] at hG HTH HSN
  generalize jnx xs ys = nx at *
  have HG := Lib.hid hG
  have HNX : Hid (∀ x, x < N → nx x < N) := hG.nx_lt
  generalize hP : xs.length = P at *
  generalize hQ : ys.length = Q at *
  have hPg : 2 * n + 2 * m ≤ P := by omega
  have hPl : P ≤ 2 * n + 2 * m := by omega
  have hmn : m + 2 * n ≤ N := by omega
  have hNg : P + 2 * n ≤ N := by omega
  have hNl : N ≤ 30 := by omega
  clear hNN hG hN1 hb1 hx hy hT px py hP hQ lx ly
  generalize hsec : (fun X => decide (P ≤ X)) = sec at *
  have hsec2 : ∀ X, decide (P ≤ X) = sec X := fun X => by rw [← hsec]
  simp only [hsec2] at HTH HCN HCS HSS HSN
  have HSEC := Lib.hid hsec2
  clear hsec hsec2
  have HW1 := Lib.hid hW1
  have HZ1 := Lib.hid hz1
  clear hW1 hz1
  have STB := Lib.hid (St.init W1)
  go_enter Try.func32, Try.ntmps32
  have hjb := HJB.out _ STB.out.below
  rw [HW1.out] at hjb
  obtain ⟨j0, j1, j2, j3, j4⟩ := hjb
  go_wp2_with (at_make; refine wpMakeB _ rfl _ _ rfl W1.heap.size n _ _ _ _ rfl rfl rfl rfl (by omega) (by rw [HW1.out]; exact Nat.le_refl _) ?_; rw [← HW1.out]; intro w5 hown hgrow; have s5 := STB.out.addSeg hown (Below.of_grown hgrow (Nat.le_refl _) (by simp)); clear hown hgrow; have HS5 := Lib.hid s5; clear s5)
  clear j0 j1 j2 j3 j4
  generalize W1.heap.size = G at HS5 ⊢
  go_loopg [3, 18] n (fun kk v3 v18 wr => ∃ (e cnt : Nat) (M : Nat → Bool), kk + e = n ∧ v18 = .int .i64 e ∧ v3 = .int .i64 cnt ∧ cnt ≤ e ∧ St W1 wr [MB (.slice (some ⟨G, 0, none⟩) n n) n M] ∧ Hid (RowM n m N nx e M) ∧ Hid (Trs (gs nx (mtR n m N)) nx (fun e => m + e) e cnt))
  case atStart => exact ⟨0, 0, _, by omega, rfl, rfl, Nat.le_refl _, HS5.out, Lib.hid RowM.zero, Lib.hid Trs.zero⟩
  case round =>
    clear HS5
    obtain ⟨e, cnt, M, he, rfl, rfl, hce, st, hM, hTr⟩ := hrel
    generalize gk = ko at *
    by_cases hlt : e < n
    · have hLv : ∀ q, q ≤ e → m + q < N := fun q hq => by omega
      have hmk := MB_cell (st.own _ List.mem_cons_self) hlt
      cases hse : M e with
      | true =>
        rw [hse] at hmk
        have hs := (hM.out e hlt).1 hse
        have HM2 := Lib.hid (RowM.old HG.out hmn hM.out hlt fun _ => hs)
        have HT2 := Lib.hid (Trs.old HG.out.rv hTr.out hLv fun _ => hs)
        have HST := Lib.hid st
        clear hs st hM hTr hse
        go_wp2
        go_roundg (ko - 1)
        case rel => exact ⟨e + 1, cnt, M, by omega, by go_num, rfl, by omega, HST.out, HM2, HT2⟩
        case measure => omega
      | false =>
        rw [hse] at hmk
        have hns : ¬ SeenL (gs nx (mtR n m N)) nx (fun e => m + e) e (m + e) := fun h => by
          have h1 := (hM.out e hlt).2 h
          rw [hse] at h1
          cases h1
        have hsx : sec (m + e) = false := by rw [← HSEC.out]; exact decide_eq_false (by omega)
        have s2 := st.addSeg (PB_new wr (1, e)) ((Below.refl _ _).alloc (Nat.le_refl _) (.cells #[.int .i64 (1 : Nat), .int .i64 e] 54))
        have s3 := s2.addSeg (s := SI (.slice (some ⟨(wr.alloc (.cells #[.int .i64 (1 : Nat), .int .i64 e] 54)).heap.size, 0, none⟩) 1 1) [(e : Int)]) (World.ownsRow_lit _ #[.int .i64 e] 1 (Nat.le_refl _) (by unfold maxLen; omega) rfl) ((Below.refl _ _).alloc (Nat.le_refl _) (.cells #[.int .i64 e] 3))
        rw [World.size_alloc] at s3
        have hme : metR n m N nx (m + e) 0 = [e] := by
          show [rhoR n m N (m + e)] = [e]
          rw [(rhoR_L hmn hlt).1]
        have hpe := HPE.out e hlt
        have HME := Lib.hid hme
        have HPX := Lib.hid hpe
        have HSX := Lib.hid hsx
        have HNS := Lib.hid hns
        have HS3 := Lib.hid s3
        clear hns s2 s3 st hse hme hpe hsx
        go_wp2_with fail
        generalize wr.heap.size = g6 at HS3 ⊢
        go_loopg [3, 7, 8] N (fun kk v3 v7 v8 wq => ∃ (t y : Nat) (a8 : Option Addr) (c8 : Nat), kk + t = N ∧ v3 = .int .i64 cnt ∧ v7 = .bool (sec y) ∧ v8 = .slice a8 (t + 1) c8 ∧ y < N ∧ Hid (iter (gs nx (mtR n m N)) t (m + e) = some y) ∧ Hid (∀ u, 0 < u → u ≤ t → iter (gs nx (mtR n m N)) u (m + e) ≠ some (m + e)) ∧ Hid (∃ z, mtR n m N y = some z) ∧
            St W1 wq [SI (.slice a8 (t + 1) c8) ((metR n m N nx (m + e) t).map fun r : Nat => (r : Int)), PB g6 (plJ n m k y), MB (.slice (some ⟨G, 0, none⟩) n n) n M])
        case atStart => exact ⟨0, m + e, _, _, by omega, rfl, by rw [HSX.out], rfl, by omega, Lib.hid rfl, Lib.hid (fun u h1 h2 => by omega), Lib.hid ⟨_, (rhoR_L hmn hlt).2.1⟩, by rw [HME.out, HPX.out]; exact HS3.out⟩
        case round =>
          clear HS3 hmk
          obtain ⟨t, y, a8, c8, hkt, rfl, rfl, rfl, hyN, hit, hnr, hym, st⟩ := hrel
          have hny := HNX.out y hyN
          have hsn := HSN.out y hyN
          have hth := HTH.out _ st.below y hyN
          have hpb := HPB.out _ hny
          have hpy := HPB.out _ hyN
          obtain ⟨S1, A1, h1⟩ : ∃ S1 A1 : Nat, plJ n m k y = (S1, A1) := ⟨_, _, rfl⟩
          obtain ⟨S3, A3, h3⟩ : ∃ S3 A3 : Nat, plJ n m k (nx y) = (S3, A3) := ⟨_, _, rfl⟩
          have hjb := HJB.out _ st.below
          obtain ⟨j0, j1, j2, j3, j4⟩ := hjb
          obtain ⟨k0, k1, f0, f1, -, -⟩ := PB_cells (st.own (PB g6 (plJ n m k y)) (by simp))
          rw [h1] at st hth k0 k1 hpy
          rw [h3] at hth hpb
          dsimp only at hth k0 k1 hpb hpy
          cases hz : mtR n m N (nx y) with
          | none =>
            have hcr := HCN.out _ hny hz
            rw [hsn, h3] at hcr
            dsimp only at hcr
            have hnc : ¬ Cyc (gs nx (mtR n m N)) (m + e) := HG.out.way_not_cyc hit.out (show mtR n m N (nx y) = none from hz) (Nat.zero_le _) rfl
            have HM2 := Lib.hid (RowM.old HG.out hmn hM.out hlt fun c => absurd c hnc)
            have HT2 := Lib.hid (Trs.old HG.out.rv hTr.out hLv fun c => absurd c hnc)
            have HTX := Lib.hid hth
            have HCR := Lib.hid hcr
            have HST := Lib.hid st
            clear hcr hsn hit hnr hz h1 h3 st hth hnc hM hTr hym HTH HCS HSS HSN HCN
            go_wp2_with (first | (go_at_call 48; refine HTX.out.mono ?_; rintro e9 w4 ⟨rfl, b4⟩; have s5 := HST.out.step b4; obtain ⟨k2, k3, f2, f3, -, -⟩ := PB_cells (s5.own (PB g6 (S1, A1)) (by simp)); have s6 := s5.putPl [_] _ (S3, A3); have HS6 := Lib.hid s6; clear s5 s6 b4 HTX HST k0 k1 f0 f1 j0 j1 j2 j3 j4) | (go_at_call 49; refine (HCR.out _).mono ?_; rintro e9 w5 ⟨rfl, b5⟩; have s7 := (HS6.out.step b5).step ((Below.refl _ _).alloc (Nat.le_refl _) (.cells #[.int .i64 S3, .int .i64 A3] 54)); have HS7 := Lib.hid (s7.sub (b := [MB (.slice (some ⟨G, 0, none⟩) n n) n M]) (by simp)); clear s7 b5 HCR k2 k3 f2 f3 HS6))
            go_roundg (ko - 1)
            case rel => exact ⟨e + 1, cnt, M, by omega, by go_num, rfl, by omega, HS7.out, HM2, HT2⟩
            case measure => omega
          | some z =>
            have hcr := HCS.out _ z hny hz
            have hsz := HSS.out _ z hny hz
            rw [hsn] at hcr hsz
            have hzN := (HG.out.mt_lt _ _ hz).2
            have hmz := HG.out.mt_mt _ _ hz
            have hrz := HRH.out z _ hzN hmz
            have hpz := HPB.out _ hzN
            have hitz : iter (gs nx (mtR n m N)) (t + 1) (m + e) = some z := by
              show (iter (gs nx (mtR n m N)) t (m + e)).bind (gs nx (mtR n m N)) = _
              rw [hit.out]; exact hz
            obtain ⟨S4, A4, h4⟩ : ∃ S4 A4 : Nat, plJ n m k z = (S4, A4) := ⟨_, _, rfl⟩
            rw [h3, h4] at hcr
            rw [h4] at hrz hpz
            dsimp only at hcr hrz hpz
            have hclose : (z = m + e ∧ sec y = true ∧ A4 = e) ∨ (z ≠ m + e ∧ sec y = true ∧ A4 ≠ e) ∨ (z ≠ m + e ∧ sec y = false) := by
              by_cases hze : z = m + e
              · refine .inl ⟨hze, ?_, ?_⟩
                · rw [hze, HSX.out] at hsz
                  cases hb : sec y
                  · rw [hb] at hsz; cases hsz
                  · rfl
                · rw [hrz, hze]; exact (rhoR_L hmn hlt).1
              · cases hb : sec y
                · exact .inr (.inr ⟨hze, rfl⟩)
                · refine .inr (.inl ⟨hze, rfl, fun h => hze ?_⟩)
                  rw [hb] at hsz
                  have hzP : ¬ P ≤ z := fun h5 => by
                    rw [← HSEC.out, decide_eq_true h5] at hsz
                    cases hsz
                  rcases (rhoR_mem hmn hmz).2 with h5 | h5
                  · rw [h5, ← hrz, h]
                  · rw [← hrz, h] at h5
                    have h6 := (rhoR_L hmn hlt).2.1
                    rw [← h5, hz] at h6
                    have h7 := Option.some.inj h6
                    omega
            have HM4 := Lib.hid (metR_succ hitz)
            rw [← hrz] at HM4
            have HSZ := Lib.hid hsz
            have HPZ := Lib.hid h4
            have HTX := Lib.hid hth
            have HCR := Lib.hid hcr
            have HST := Lib.hid st
            have HITZ := Lib.hid hitz
            have HMZ : Hid (∃ z', mtR n m N z = some z') := ⟨_, hmz⟩
            clear hcr hsn hsz hz h1 h3 h4 st hth hmz hrz hitz
            rcases hclose with ⟨hze, hsy, hA4⟩ | hopen
            · subst hA4
              subst hze
              obtain ⟨hcy, hper⟩ := perS_eq (by omega) HITZ.out fun u h1 h2 => hnr.out u h1 (by omega)
              have hgn := RowM.new HG.out hmn hM.out hlt hcy hper
              have htn := Trs.new HG.out.rv hTr.out hLv hcy HNS.out
              have HF2 := Lib.hid hgn
              have HT2 := Lib.hid htn
              have hl4b : ∀ r ∈ metR n m N nx (m + A4) t, r < n := fun r hr => by
                obtain ⟨j, y', hj, hy', rfl⟩ := (metR_mem fun u hu => perS_def hcy (by omega)).1 hr
                obtain ⟨z', hz'⟩ := HG.out.cyc_mt (hcy.on ⟨j, hy'⟩).2
                exact (rhoR_mem hmn hz').1
              have HL4B := Lib.hid hl4b
              have HL4 := Lib.hid (metR_length (n := n) (m := m) (N := N) (nx := nx) (m + A4) t)
              have htN := HG.out.way_le (show m + A4 < N by omega) hit.out hnr.out
              rw [hsy] at HTX HCR ⊢
              clear hgn htn hcy hper hl4b hM hTr hit hnr hym hsy HTH HCS HSS HSN HCN HM4 HNS
              have e5 : ((A4 : Int) == (A4 : Int)) = true := beq_self_eq_true _
              go_wp2_with (first | (go_at_call 48; refine HTX.out.mono ?_; rintro e9 w4 ⟨rfl, b4⟩; have s5 := HST.out.step b4; obtain ⟨k2, k3, f2, f3, -, -⟩ := PB_cells (s5.own (PB g6 (S1, A1)) (by simp)); have s6 := s5.putPl [_] _ (S3, A3); have HS6 := Lib.hid s6; clear s5 s6 b4 HTX HST k0 k1 f0 f1 j0 j1 j2 j3 j4) | (go_at_call 49; refine (HCR.out _).mono ?_; rintro e9 w5 ⟨rfl, b5⟩; have s7 := (HS6.out.step b5).step ((Below.refl _ _).alloc (Nat.le_refl _) (.cells #[.int .i64 S4, .int .i64 A4] 54)); obtain ⟨k4, k5, f4, f5, -, -⟩ := PB_cells (s7.own (PB g6 (S3, A3)) (by simp)); have s8 := s7.putPl [_] _ (S4, A4); have HS8 := Lib.hid s8; clear s7 s8 b5 HCR k2 k3 f2 f3 HS6))
              clear k4 k5 f4 f5 e5
              generalize hl4 : metR n m N nx (m + A4) t = l4 at *
              clear hl4
              have HS9 := Lib.hid (HS8.out.sub (b := [SI (.slice a8 (t + 1) c8) (l4.map fun r : Nat => (r : Int)), MB (.slice (some ⟨G, 0, none⟩) n n) n M]) (by simp))
              clear HS8
              go_loopg [56] (t + 1) (fun kk v56 wq => ∃ i, kk + i = t + 1 ∧ v56 = .int .i64 i ∧ St W1 wq [SI (.slice a8 (t + 1) c8) (l4.map fun r : Nat => (r : Int)), MB (.slice (some ⟨G, 0, none⟩) n n) n (markL M (l4.take i))])
              case atStart => exact ⟨0, by omega, rfl, by rw [List.take_zero]; exact HS9.out⟩
              case round =>
                clear HS9
                obtain ⟨i, hki, rfl, st⟩ := hrel
                by_cases hil : i < t + 1
                · have hil4 : i < l4.length := by rw [HL4.out]; exact hil
                  obtain ⟨b8, o8, rfl, hc8⟩ := st.cellAt 0 rfl (j := i) (by rw [List.length_map]; exact hil4)
                  obtain ⟨y4, hget⟩ : ∃ y4, l4[i]? = some y4 := ⟨_, List.getElem?_eq_getElem hil4⟩
                  have hy4 := HL4B.out _ (List.mem_of_getElem? hget)
                  rw [show (l4.map fun r : Nat => (r : Int)).getD i 0 = (y4 : Int) by rw [List.getD_eq_getElem?_getD, List.getElem?_map, hget]; rfl] at hc8
                  obtain ⟨k6, k7, s9⟩ := St.mark [_] [] st y4 hy4
                  rw [markL_succ M l4 hget] at s9
                  have HS9 := Lib.hid s9
                  clear st s9 hget
                  go_wp2
                  go_roundg (gk - 1)
                  case rel => exact ⟨i + 1, by omega, by go_num, HS9.out⟩
                  case measure => omega
                · have hit1 : i = t + 1 := by omega
                  subst i
                  have hs11 := st.sub (b := [MB (.slice (some ⟨G, 0, none⟩) n n) n (markL M (l4.take (t + 1)))]) (by simp)
                  rw [List.take_of_length_le (by rw [HL4.out]; exact Nat.le_refl _)] at hs11
                  have HS11 := Lib.hid hs11
                  clear st hs11
                  go_wp2
                  go_roundg (ko - 1)
                  case rel => exact ⟨A4 + 1, cnt + 1, _, by omega, by go_num, by go_num, by omega, HS11.out, HF2, HT2⟩
                  case measure => omega
            · have hze : z ≠ m + e := by
                rcases hopen with h | h
                · exact h.1
                · exact h.1
              have hnr2 : ∀ u, 0 < u → u ≤ t + 1 → iter (gs nx (mtR n m N)) u (m + e) ≠ some (m + e) := fun u h1 h2 h3 => by
                by_cases e : u = t + 1
                · subst e
                  rw [HITZ.out] at h3
                  exact hze (Option.some.inj h3)
                · exact hnr.out u h1 (by omega) h3
              have hwl := HG.out.way_le (show m + e < N by omega) HITZ.out hnr2
              have HNR2 := Lib.hid hnr2
              have HLM := Lib.hid (metR_length (n := n) (m := m) (N := N) (nx := nx) (m + e) t)
              have HLM2 := Lib.hid (metR_length (n := n) (m := m) (N := N) (nx := nx) (m + e) (t + 1))
              have hmap : ((metR n m N nx (m + e) t).map fun r : Nat => (r : Int)) ++ [(A4 : Int)] = (metR n m N nx (m + e) (t + 1)).map fun r : Nat => (r : Int) := by rw [← HM4.out, List.map_append]; rfl
              have HMAP := Lib.hid hmap
              clear hnr hnr2 hit hmap hze hym
              have hopen2 : (sec y = true ∧ ((A4 : Int) == (e : Int)) = false) ∨ sec y = false := by
                rcases hopen with ⟨_, h1, h2⟩ | ⟨_, h1⟩
                · exact .inl ⟨h1, beq_eq_false_iff_ne.2 (by omega)⟩
                · exact .inr h1
              clear hopen
              rcases hopen2 with ⟨hsy, e5⟩ | hsy
              all_goals
                rw [hsy] at HTX HCR HSZ ⊢
                clear hsy
                go_wp2_with (first | (go_at_call 48; refine HTX.out.mono ?_; rintro e9 w4 ⟨rfl, b4⟩; have s5 := HST.out.step b4; obtain ⟨k2, k3, f2, f3, -, -⟩ := PB_cells (s5.own (PB g6 (S1, A1)) (by simp)); have s6 := s5.putPl [_] _ (S3, A3); have HS6 := Lib.hid s6; clear s5 s6 b4 HTX HST k0 k1 f0 f1 j0 j1 j2 j3 j4) | (go_at_call 49; refine (HCR.out _).mono ?_; rintro e9 w5 ⟨rfl, b5⟩; have s7 := (HS6.out.step b5).step ((Below.refl _ _).alloc (Nat.le_refl _) (.cells #[.int .i64 S4, .int .i64 A4] 54)); obtain ⟨k4, k5, f4, f5, -, -⟩ := PB_cells (s7.own (PB g6 (S3, A3)) (by simp)); have s8 := s7.putPl [_] _ (S4, A4); have s9 := s8.step ((Below.refl _ _).alloc (Nat.le_refl _) (.cells #[.int .i64 A4] 3)); have HS9 := Lib.hid s9; clear s7 s8 s9 b5 HCR k2 k3 f2 f3 HS6) | (at_builtin; refine wpPushI _ rfl _ _ rfl W1.heap.size _ _ (A4 : Int) _ rfl (HS9.out.own _ List.mem_cons_self) rfl (one_new' _ _ (by simp) _ _) (by rw [List.length_map, HLM.out]; omega) ?_; intro v' w10 hbec; have s10 := HS9.out.became0 hbec; rw [HMAP.out] at s10; obtain ⟨a10, c10, hv10⟩ := s10.shapeI0; rw [List.length_map, HLM2.out] at hv10; subst hv10; have HS10 := Lib.hid s10; clear hbec s10))
                go_roundg (gk - 1)
                case rel => exact ⟨t + 1, z, a10, c10, by omega, rfl, by rw [HSZ.out] <;> rfl, rfl, hzN, HITZ, HNR2, HMZ, by rw [HPZ.out]; exact HS10.out⟩
                case measure => omega
    · have hen : e = n := by omega
      subst e
      have HCT := Lib.hid (row_count HG.out hmn hTr.out)
      have HB := Lib.hid (HBW.out _ st.below)
      clear st hM hTr
      go_wp2
      go_ret
      exact ⟨by rw [← HCT.out]; rfl, HB.out⟩
end Go.Proofs.Ytfpcfolcdpdomaa
