/- Contract: two pairings joined, as the program pairs the outer ports (pairs). -/
import Derived.Test.YtfpcfolcdpdomaaJStepW
import Derived.Deep.LoopGhost
import Derived.Deep.DeepCutAuto
namespace Go.Proofs.Ytfpcfolcdpdomaa
open Go.RowKit
set_option linter.unusedVariables false
set_option linter.unusedSimpArgs false

theorem jbox_cells (w : World) (a b c d e : Value) {W : World} (h : Below (w.alloc (.cells #[a, b, c, d, e] 46)).heap.size (w.alloc (.cells #[a, b, c, d, e] 46)) W) :
    W.cell? ⟨w.heap.size, 0, none⟩ = some a ∧ W.cell? ⟨w.heap.size, 1, none⟩ = some b ∧ W.cell? ⟨w.heap.size, 2, none⟩ = some c ∧ W.cell? ⟨w.heap.size, 3, none⟩ = some d ∧ W.cell? ⟨w.heap.size, 4, none⟩ = some e := by
  have f : ∀ j v, (w.alloc (.cells #[a, b, c, d, e] 46)).cell? ⟨w.heap.size, j, none⟩ = some v → W.cell? ⟨w.heap.size, j, none⟩ = some v := fun j v hv => (h.cell (p := ⟨w.heap.size, j, none⟩) (by simp)).trans hv
  exact ⟨f 0 _ (by simp [go_sem]), f 1 _ (by simp [go_sem]), f 2 _ (by simp [go_sem]), f 3 _ (by simp [go_sem]), f 4 _ (by simp [go_sem])⟩

set_option maxRecDepth 100000 in
set_option maxHeartbeats 8000000 in
theorem jpairs_any (n m k : Nat) (ao : Option Addr) (cap : Nat) (xs : List Int) (bo : Option Addr) (capb : Nat) (ys : List Int) (w : World) (hx : CellsI w ao xs) (hy : CellsI w bo ys)
    (hT : Two n m k) (lx : xs.length = 2 * n + 2 * m) (ly : ys.length = 2 * n + 2 * k) (px : pairsB xs = true) (py : pairsB ys = true) :
    Calls Try.prog 33 #[.agg #[.int .i64 n, .int .i64 m, .int .i64 k, .slice ao xs.length cap, .slice bo ys.length capb]] w fun e w' => ∃ v, e = .returned v ∧ St w w' [SI v (joinL n m k xs ys)] := by
  unfold joinL
  have hG := join_glue (n := n) lx ly px py
  have hn1 := hT.n1
  have hn5 := hT.n5
  have hm1 := hT.m1
  have hk1 := hT.k1
  have hmk := hT.mk5
  obtain ⟨W1, hW1⟩ : ∃ W1, W1 = w.alloc (.cells #[.int .i64 n, .int .i64 m, .int .i64 k, .slice ao xs.length cap, .slice bo ys.length capb] 46) := ⟨_, rfl⟩
  have hb1 : Below w.heap.size w W1 := by rw [hW1]; exact (Below.refl _ _).alloc (Nat.le_refl _) _
  have hz1 : W1.heap.size = w.heap.size + 1 := by rw [hW1]; simp
  have HBW := Lib.hid fun W (h : Below W1.heap.size W1 W) => hb1.trans (h.mono (by omega))
  have HTH : Hid (∀ W, Below W1.heap.size W1 W → ∀ X, X < xs.length + ys.length → Calls Try.prog 48 #[.agg #[.int .i64 n, .int .i64 m, .int .i64 k, .slice ao xs.length cap, .slice bo ys.length capb], .bool (decide (xs.length ≤ X)), .agg #[.int .i64 (plJ n m k X).1, .int .i64 (plJ n m k X).2]] W fun e w' =>
      e = .returned (.agg #[.int .i64 (plJ n m k (jnx xs ys X)).1, .int .i64 (plJ n m k (jnx xs ys X)).2]) ∧ Below W.heap.size W w') := fun W hb X hX =>
    jthru_any n m k ao cap xs bo capb ys hT lx ly px py W (hx.below (HBW.out W hb) (Nat.le_refl _)) (hy.below (HBW.out W hb) (Nat.le_refl _)) X hX
  have HCN := Lib.hid fun X (hX : X < 4 * n + 2 * m + 2 * k) hz W => jcross_none hT hX hz W
  have HCS := Lib.hid fun X z (hX : X < 4 * n + 2 * m + 2 * k) hz W => jcross_some (z := z) hT hX hz W
  have HSS := Lib.hid fun X z (hX : X < 4 * n + 2 * m + 2 * k) hz => jsec_some (z := z) hT hX hz
  have HSN := Lib.hid fun X (hX : X < xs.length + ys.length) => jsec_nx (ys := ys) px hX
  have HO := Lib.hid fun p (hp : p < 2 * n + 2 * m + 2 * k) => plJ_outer hT hp
  have HN := Lib.hid fun X (hX : X < 4 * n + 2 * m + 2 * k) hz => plJ_none hT hX hz
  have HPB := Lib.hid fun X (hX : X < 4 * n + 2 * m + 2 * k) => (plJ_cast hT hX).2.2
  have HIX := Lib.hid fun p (hp : p < 2 * n + 2 * m + 2 * k) => (nmI_idx (n := n) (m := m) (k := k) hp).2
  have HIO := Lib.hid fun p (hp : p < 2 * n + 2 * m + 2 * k) => idxJ_out (n := n) (m := m) (k := k) hp
  have HPO := Lib.hid fun p (hp : p < 2 * n + 2 * m + 2 * k) W => placeOf_any n ((m : Int) + k) p W (by omega) (by omega) (by omega) (by omega) (by omega) (by omega)
  have HPT := Lib.hid fun s a W (h1 : -1000 ≤ a) (h2 : a ≤ 1000) => portOf_any n ((m : Int) + k) s a W (by omega) (by omega) (by omega) (by omega) (by omega) (by omega)
  have hG2 := hG
  rw [show xs.length + ys.length = 4 * n + 2 * m + 2 * k by omega] at hG2
  have HJE := Lib.hid fun p K y => joutF_end (p := p) (K := K) (y := y) hG2
  have HJB := Lib.hid fun W (h : Below W1.heap.size W1 W) => jbox_cells w (.int .i64 n) (.int .i64 m) (.int .i64 k) (.slice ao xs.length cap) (.slice bo ys.length capb) (W := W) (by rw [← hW1]; exact h)
  generalize hTT : 2 * n + 2 * m + 2 * k = T at *
  rw [← lx] at HCN HCS HSS HN HO
  generalize hNN : 4 * n + 2 * m + 2 * k = N at *
  have hN1 : xs.length + ys.length = N := by omega
  rw [hN1] at hG HTH HSN
  generalize jnx xs ys = nx at *
  have HG := Lib.hid hG
  have HNX : Hid (∀ x, x < N → nx x < N) := hG.nx_lt
  generalize hP : xs.length = P at *
  generalize hQ : ys.length = Q at *
  have hTl : T ≤ 2 * n + 2 * m + 2 * k := by omega
  have hTg : 2 * n + 2 * m + 2 * k ≤ T := by omega
  have hNl : N ≤ 30 := by omega
  clear hG2 hTT hNN hG hN1 hb1 hx hy hT px py hP hQ lx ly
  generalize hsec : (fun X => decide (P ≤ X)) = sec at *
  have hsec2 : ∀ X, decide (P ≤ X) = sec X := fun X => by rw [← hsec]
  simp only [hsec2] at HTH HCN HCS HSS HSN
  have HSEC := Lib.hid hsec2
  clear hsec hsec2
  have HW1 := Lib.hid hW1
  have HZ1 := Lib.hid hz1
  clear hW1 hz1
  have STB := Lib.hid (St.init W1)
  go_enter Try.func33, Try.ntmps33
  go_wp2
  go_quiet (fail)
  rw [← HW1.out]
  have STB2 := Lib.hid (STB.out.dr ⟨nq, rfl⟩)
  generalize W1.drewN nq = Wq at STB2 ⊢
  clear STB
  go_wp2_with (at_make; refine wpMakeI _ rfl _ _ rfl Wq.heap.size T _ _ _ _ rfl rfl (by omega) (by omega) (by omega) (Nat.le_refl _) ?_; intro w5 hown hgrow; have s5 := STB2.out.addSeg (s := SI _ _) hown (Below.of_grown hgrow (Nat.le_refl _) (by simp)); clear hown hgrow)
  generalize Wq.heap.size = O at s5 ⊢
  rw [← fillTo_zero (joutF n m k nx)] at s5
  have HS5 := Lib.hid s5
  clear s5 STB2
  go_loopg [26] T (fun kk v26 wr => ∃ p : Nat, kk + p = T ∧ v26 = .int .i64 p ∧ St W1 wr [SI (.slice (some ⟨O, 0, none⟩) T T) (fillTo (joutF n m k nx) T p)])
  case atStart => exact ⟨0, by omega, rfl, HS5.out⟩
  case round =>
    clear HS5
    obtain ⟨p, hp, rfl, st⟩ := hrel
    generalize gk = ko at *
    by_cases hlt : p < T
    · have hXN := HIX.out p hlt
      have hXo := HIO.out p hlt
      have hpo := HPO.out p hlt
      have hjx := HJE.out p
      obtain ⟨S1, A1, A', hpl, hs1, ha1, hsel⟩ : ∃ S1 A1 A' : Nat, plJ n m k (idxJ n m k p) = (S1, A1) ∧ sideI n ((m : Int) + k) p = (S1 : Int) ∧ atI n ((m : Int) + k) p = (A' : Int) ∧
          ((sec (idxJ n m k p) = false ∧ A' = A1 ∧ (S1 = 3 ∨ ((S1 = 0 ∨ S1 = 2) ∧ A1 < m))) ∨ (sec (idxJ n m k p) = true ∧ ((S1 = 1 ∧ A' = A1) ∨ ((S1 = 0 ∨ S1 = 2) ∧ A' = A1 + m)))) := by
        rcases HO.out p hlt with ⟨h1, h2, h3, h4⟩ | ⟨h1, h2, h3⟩
        · exact ⟨_, _, _, rfl, h2, h3, .inl ⟨by rw [← HSEC.out]; exact decide_eq_false (by omega), rfl, h4⟩⟩
        · rcases h3 with ⟨h4, h5⟩ | ⟨h4, h5⟩
          · exact ⟨_, _, (plJ n m k (idxJ n m k p)).2, rfl, h2, h5, .inr ⟨by rw [← HSEC.out]; exact decide_eq_true h1, .inl ⟨h4, rfl⟩⟩⟩
          · exact ⟨_, _, (plJ n m k (idxJ n m k p)).2 + m, rfl, h2, by rw [h5]; omega, .inr ⟨by rw [← HSEC.out]; exact decide_eq_true h1, .inr ⟨h4, rfl⟩⟩⟩
      rw [hs1, ha1] at hpo
      have hSA := HPB.out _ hXN
      rw [hpl] at hSA
      dsimp only at hSA
      have HPL := Lib.hid hpl
      have HPO2 := Lib.hid hpo
      have HJX := Lib.hid hjx
      have HXO := Lib.hid hXo
      generalize idxJ n m k p = X at *
      clear hpl hs1 ha1 hpo hjx hXo
      have HST := Lib.hid st
      clear st
      have hjb := HJB.out _ HST.out.below
      go_upto_region 7 with (first | (go_at_call 36; refine (HPO2.out _).mono ?_; rintro e w2 ⟨rfl, b2⟩; have s3 := (HST.out.step b2).addSeg (PB_new w2 (S1, A')) ((Below.refl _ _).alloc (Nat.le_refl _) (.cells #[.int .i64 S1, .int .i64 A'] 54)); have hjb3 := HJB.out _ s3.below; have HS3 := Lib.hid s3; obtain ⟨k0, k1, f0, f1, -, -⟩ := PB_cells (s3.own _ List.mem_cons_self); obtain ⟨j0, j1, j2, j3, j4⟩ := hjb3; clear b2 s3 HST))
      clear hjb
      generalize hWE : w2.alloc (.cells #[.int .i64 S1, .int .i64 A'] 54) = WE at *
      generalize w2.heap.size = g2 at *
      clear hWE
      go_cut [8] (fun v8 wx => v8 = .bool (sec X) ∧ wx = WE)
      case first =>
        have hq : (S1 = 3 ∧ sec X = false ∧ A' = A1) ∨ ((S1 = 0 ∨ S1 = 2) ∧ sec X = false ∧ A' < m) ∨ (S1 = 1 ∧ sec X = true) ∨ ((S1 = 0 ∨ S1 = 2) ∧ sec X = true ∧ m ≤ A') := by
          rcases hsel with ⟨h1, h2, h3⟩ | ⟨h1, h2⟩
          · rcases h3 with h3 | ⟨h3, h4⟩
            · exact .inl ⟨h3, h1, h2⟩
            · exact .inr (.inl ⟨h3, h1, by omega⟩)
          · rcases h2 with ⟨h2, h3⟩ | ⟨h2, h3⟩
            · exact .inr (.inr (.inl ⟨h2, h1⟩))
            · exact .inr (.inr (.inr ⟨h2, h1, by omega⟩))
        clear hsel
        rcases hq with ⟨h1, h2, h3⟩ | ⟨h1, h2, h3⟩ | ⟨h1, h2⟩ | ⟨h1, h2, h3⟩
        · have HSX := Lib.hid h2
          have e1 : ((S1 : Int) == 1) = false := beq_eq_false_iff_ne.2 (by omega)
          have e2 : ((S1 : Int) != 3) = false := by rw [bne_eq_false_iff_eq]; omega
          clear h2 h1
          go_wp2
          go_meet
          case rel => exact ⟨by rw [HSX.out]; first | done | rfl | (rw [decide_eq_false (by omega)]) | (rw [decide_eq_true (by omega)]), rfl⟩
        · have HSX := Lib.hid h2
          have e1 : ((S1 : Int) == 1) = false := beq_eq_false_iff_ne.2 (by omega)
          have e2 : ((S1 : Int) != 3) = true := by rw [bne_iff_ne]; omega
          have e3 : decide ((A' : Int) ≥ m) = false := decide_eq_false (by omega)
          clear h2 h1
          go_wp2
          go_meet
          case rel => exact ⟨by rw [HSX.out]; first | done | rfl | (rw [decide_eq_false (by omega)]) | (rw [decide_eq_true (by omega)]), rfl⟩
        · have HSX := Lib.hid h2
          have e1 : ((S1 : Int) == 1) = true := beq_iff_eq.2 (by omega)
          clear h2 h1
          go_wp2
          go_meet
          case rel => exact ⟨by rw [HSX.out]; first | done | rfl | (rw [decide_eq_false (by omega)]) | (rw [decide_eq_true (by omega)]), rfl⟩
        · have HSX := Lib.hid h2
          have e1 : ((S1 : Int) == 1) = false := beq_eq_false_iff_ne.2 (by omega)
          have e2 : ((S1 : Int) != 3) = true := by rw [bne_iff_ne]; omega
          have e3 : decide ((A' : Int) ≥ m) = true := decide_eq_true (by omega)
          clear h2 h1
          go_wp2
          go_meet
          case rel => exact ⟨by rw [HSX.out]; first | done | rfl | (rw [decide_eq_false (by omega)]) | (rw [decide_eq_true (by omega)]), rfl⟩
      case rest =>
      obtain ⟨rfl, rfl⟩ := hcut
      have hq : (sec X = false ∧ A' = A1) ∨ (S1 = 1 ∧ sec X = true ∧ A' = A1) ∨ ((S1 = 0 ∨ S1 = 2) ∧ sec X = true ∧ A' = A1 + m) := by
        rcases hsel with ⟨h1, h2, h3⟩ | ⟨h1, h2⟩
        · exact .inl ⟨h1, h2⟩
        · rcases h2 with ⟨h2, h3⟩ | ⟨h2, h3⟩
          · exact .inr (.inl ⟨h2, h1, h3⟩)
          · exact .inr (.inr ⟨h2, h1, h3⟩)
      clear hsel
      go_upto_region 8 with (fail)
      go_cut [8, 53] (fun v8 v53 wx => ∃ b : Bool, v8 = .bool (sec X) ∧ v53 = .bool b ∧ ((b = false ∧ A' = A1) ∨ (b = true ∧ A' = A1 + m)) ∧ wx = wc)
      case first =>
        rcases hq with ⟨h2, h3⟩ | ⟨h1, h2, h3⟩ | ⟨h1, h2, h3⟩
        · have HSX := Lib.hid h2
          rw [h2]
          clear h2
          go_wp2
          go_meet
          case rel => exact ⟨false, by rw [HSX.out], rfl, .inl ⟨rfl, h3⟩, rfl⟩
        · have e2 : ((S1 : Int) != 1) = false := by rw [bne_eq_false_iff_eq]; omega
          have HSX := Lib.hid h2
          rw [h2]
          clear h2
          go_wp2
          go_meet
          case rel => exact ⟨false, by rw [HSX.out], rfl, .inl ⟨rfl, h3⟩, rfl⟩
        · have e2 : ((S1 : Int) != 1) = true := by rw [bne_iff_ne]; omega
          have HSX := Lib.hid h2
          rw [h2]
          clear h2
          go_wp2
          go_meet
          case rel => exact ⟨true, by rw [HSX.out], rfl, .inr ⟨rfl, h3⟩, rfl⟩
      case rest =>
      obtain ⟨b, rfl, rfl, hbq, rfl⟩ := hcut
      go_upto_if 53 with (fail)
      go_cut [8] (fun v8 wx => v8 = .bool (sec X) ∧ St W1 wx [PB g2 (S1, A1), SI (.slice (some ⟨O, 0, none⟩) T T) (fillTo (joutF n m k nx) T p)])
      case first =>
        rcases hbq with ⟨rfl, rfl⟩ | ⟨rfl, rfl⟩
        · go_wp2
          go_meet
          case rel => exact ⟨rfl, HS3.out⟩
        · have s4 := HS3.out.putPl1 [] _ A1
          go_wp2
          go_meet
          case rel => exact ⟨rfl, s4⟩
      case rest =>
      obtain ⟨rfl, st2⟩ := hcut
      clear hq hbq HS3 HPO2
      obtain ⟨K, yK, hK, hKe, hKn⟩ := HG.out.outer_ends hXN HXO.out
      have hth := HTH.out _ st2.below X hXN
      rw [HPL.out] at hth
      dsimp only at hth
      have hjb := HJB.out _ st2.below
      obtain ⟨j0, j1, j2, j3, j4⟩ := hjb
      obtain ⟨k0, k1, f0, f1, -, -⟩ := PB_cells (st2.own _ List.mem_cons_self)
      dsimp only at k0 k1
      have HTX := Lib.hid hth
      have HKE := Lib.hid hKe
      have HKN := Lib.hid hKn
      have HS2 := Lib.hid st2
      clear hth hKe hKn st2
      go_wp2_with (go_at_call 48; refine HTX.out.mono ?_; rintro e w4 ⟨rfl, b4⟩; have s5 := HS2.out.step b4; obtain ⟨k2, k3, f2, f3, -, -⟩ := PB_cells (s5.own _ List.mem_cons_self); have s6 := s5.putPl [] _ (plJ n m k (nx X)); have HS6 := Lib.hid s6; clear s5 s6 b4 HTX HS2 j0 j1 j2 j3 j4 k0 k1 f0 f1)
      try clear k2 k3 f2 f3
      go_loopg [8, 9, 10] K (fun kk v8 v9 v10 wq => ∃ t y : Nat, kk + t = K ∧ v8 = .bool (sec y) ∧ y < N ∧ Hid (iter (gs nx (mtR n m N)) t X = some y) ∧ St W1 wq [PB g2 (plJ n m k (nx y)), SI (.slice (some ⟨O, 0, none⟩) T T) (fillTo (joutF n m k nx) T p)])
      case atStart => exact ⟨0, X, by omega, rfl, hXN, Lib.hid rfl, HS6.out⟩
      case round =>
        clear HS6
        obtain ⟨t, y, hkt, rfl, hyN, hit, st⟩ := hrel
        have hny := HNX.out y hyN
        have hsn := HSN.out y hyN
        obtain ⟨k0, k1, f0, f1, -, -⟩ := PB_cells (st.own _ List.mem_cons_self)
        have hpb := HPB.out _ hny
        cases hz : mtR n m N (nx y) with
        | none =>
          have hcr := HCN.out _ hny hz
          have hnn := HN.out _ hny hz
          have htK : t = K := by
            rcases Nat.lt_trichotomy t K with h | h | h
            · exfalso
              obtain ⟨v, hv⟩ := iter_lt HKE.out (t + 1) (by omega)
              obtain ⟨v', hv', hv2⟩ := iter_pred hv
              rw [hit.out] at hv'
              cases hv'
              have : mtR n m N (nx y) = some v := hv2
              rw [hz] at this
              cases this
            · exact h
            · exfalso; omega
          have hjf := HJX.out t y hlt (by omega) hit.out hz
          rw [hsn] at hcr
          obtain ⟨S3, A3, h3⟩ : ∃ S3 A3 : Nat, plJ n m k (nx y) = (S3, A3) := ⟨_, _, rfl⟩
          rw [h3] at hcr hnn hpb k0 k1 st
          dsimp only at hcr hnn hpb k0 k1
          rw [← hjf] at hnn
          have hnn2 : (sec y = false ∧ portI n ((m : Int) + k) S3 A3 = joutF n m k nx p) ∨ (S3 = 1 ∧ sec y = true ∧ portI n ((m : Int) + k) S3 A3 = joutF n m k nx p) ∨ ((S3 = 0 ∨ S3 = 2) ∧ sec y = true ∧ portI n ((m : Int) + k) S3 ((A3 + m : Nat) : Int) = joutF n m k nx p) := by
            rw [← hsn, ← HSEC.out]
            rcases hnn with ⟨h1, h2, h4⟩ | ⟨h1, ⟨h2, h4⟩ | ⟨h2, h4⟩⟩
            · exact .inl ⟨decide_eq_false (by omega), h4⟩
            · exact .inr (.inl ⟨h2, decide_eq_true h1, by rw [h2]; exact h4⟩)
            · exact .inr (.inr ⟨h2, decide_eq_true h1, by rw [show (((A3 + m : Nat)) : Int) = (A3 : Int) + m by omega]; exact h4⟩)
          have HCR := Lib.hid hcr
          have HST := Lib.hid st
          clear hcr hnn hsn hjf hit hz h3 st HTH HCS HSS HSN HCN HN HJE HJX HKE HKN HXO HO HIO HPO
          rcases hnn2 with ⟨h1, h2⟩ | ⟨h1, h2, h4⟩ | ⟨h1, h2, h4⟩
          · have HP2 := Lib.hid h2
            rw [h1] at HCR ⊢
            clear h1 h2
            go_wp2_with (first | (go_at_call 49; refine (HCR.out _).mono ?_; rintro e w5 ⟨rfl, b5⟩; have s6 := (HST.out.step b5).step ((Below.refl _ _).alloc (Nat.le_refl _) (.cells #[.int .i64 S3, .int .i64 A3] 54)); obtain ⟨k2, k3, f2, f3, -, -⟩ := PB_cells (s6.own _ List.mem_cons_self); dsimp only at k2 k3; have HS6 := Lib.hid s6; clear s6 b5 HST HCR) | (go_at_call 37; refine (HPT.out S3 A3 _ (by omega) (by omega)).mono ?_; rintro e w7 ⟨rfl, b7⟩; rw [HP2.out]; have s8 := HS6.out.step b7; obtain ⟨⟨u, h3⟩, f4, s9⟩ := St.putAt [_] [] s8 p (by rw [fillTo_length]; omega); have s9 := s9 (joutF n m k nx p); rw [fillTo_set] at s9; have HS9 := Lib.hid (s9.sub (b := [SI (.slice (some ⟨O, 0, none⟩) T T) (fillTo (joutF n m k nx) T (p + 1))]) (by simp)); clear s8 s9 b7 HS6))
            go_roundg (ko - 1)
            case rel => exact ⟨p + 1, by omega, by go_num, HS9.out⟩
            case measure => omega
          · have HP2 := Lib.hid h4
            have e2 : ((S3 : Int) != 1) = false := by rw [bne_eq_false_iff_eq]; omega
            rw [h2] at HCR ⊢
            clear h1 h2 h4
            go_wp2_with (first | (go_at_call 49; refine (HCR.out _).mono ?_; rintro e w5 ⟨rfl, b5⟩; have s6 := (HST.out.step b5).step ((Below.refl _ _).alloc (Nat.le_refl _) (.cells #[.int .i64 S3, .int .i64 A3] 54)); obtain ⟨k2, k3, f2, f3, -, -⟩ := PB_cells (s6.own _ List.mem_cons_self); dsimp only at k2 k3; have HS6 := Lib.hid s6; clear s6 b5 HST HCR) | (go_at_call 37; refine (HPT.out S3 A3 _ (by omega) (by omega)).mono ?_; rintro e w7 ⟨rfl, b7⟩; rw [HP2.out]; have s8 := HS6.out.step b7; obtain ⟨⟨u, h3⟩, f4, s9⟩ := St.putAt [_] [] s8 p (by rw [fillTo_length]; omega); have s9 := s9 (joutF n m k nx p); rw [fillTo_set] at s9; have HS9 := Lib.hid (s9.sub (b := [SI (.slice (some ⟨O, 0, none⟩) T T) (fillTo (joutF n m k nx) T (p + 1))]) (by simp)); clear s8 s9 b7 HS6))
            go_roundg (ko - 1)
            case rel => exact ⟨p + 1, by omega, by go_num, HS9.out⟩
            case measure => omega
          · have e2 : ((S3 : Int) != 1) = true := by rw [bne_iff_ne]; omega
            have hea : ((A3 + m : Nat) : Int) = (A3 : Int) + m := by omega
            rw [hea] at h4
            have HEA := Lib.hid hea
            have HP2 := Lib.hid h4
            rw [h2] at HCR ⊢
            clear h1 h2 h4 hea
            go_wp2_with (first | (go_at_call 49; refine (HCR.out _).mono ?_; rintro e w5 ⟨rfl, b5⟩; have s6 := (HST.out.step b5).step ((Below.refl _ _).alloc (Nat.le_refl _) (.cells #[.int .i64 S3, .int .i64 A3] 54)); obtain ⟨k2, k3, f2, f3, -, -⟩ := PB_cells (s6.own _ List.mem_cons_self); dsimp only at k2 k3; have s7 := s6.putPl1 [] _ (A3 + m); have j7 := HJB.out _ s6.below; obtain ⟨j0, j1, j2, j3, j4⟩ := j7; obtain ⟨k4, k5, -, -, -, -⟩ := PB_cells (s7.own _ List.mem_cons_self); dsimp only at k4 k5; rw [HEA.out] at k4 k5 s7; have HS6 := Lib.hid s7; clear s6 s7 b5 HST HCR) | (go_at_call 37; refine (HPT.out S3 ((A3 : Int) + m) _ (by omega) (by omega)).mono ?_; rintro e w7 ⟨rfl, b7⟩; rw [HP2.out]; have s8 := HS6.out.step b7; obtain ⟨⟨u, h3⟩, f4, s9⟩ := St.putAt [_] [] s8 p (by rw [fillTo_length]; omega); have s9 := s9 (joutF n m k nx p); rw [fillTo_set] at s9; have HS9 := Lib.hid (s9.sub (b := [SI (.slice (some ⟨O, 0, none⟩) T T) (fillTo (joutF n m k nx) T (p + 1))]) (by simp)); clear s8 s9 b7 HS6))
            go_roundg (ko - 1)
            case rel => exact ⟨p + 1, by omega, by go_num, HS9.out⟩
            case measure => omega
        | some z =>
          have hcr := HCS.out _ z hny hz
          rw [hsn] at hcr
          have hsz := HSS.out _ z hny hz
          rw [hsn] at hsz
          have hzN := (HG.out.mt_lt _ _ hz).2
          have hitz : iter (gs nx (mtR n m N)) (t + 1) X = some z := by
            show (iter (gs nx (mtR n m N)) t X).bind (gs nx (mtR n m N)) = _
            rw [hit.out]; exact hz
          have hK1 : 1 ≤ gk := by
            apply Nat.pos_of_ne_zero
            intro h0
            have e : t = K := by omega
            have h1 := hit.out
            rw [e, HKE.out] at h1
            have h3 := Option.some.inj h1
            have h2 : mtR n m N (nx yK) = none := HKN.out
            rw [h3, hz] at h2
            cases h2
          obtain ⟨S3, A3, h3⟩ : ∃ S3 A3 : Nat, plJ n m k (nx y) = (S3, A3) := ⟨_, _, rfl⟩
          obtain ⟨S4, A4, h4⟩ : ∃ S4 A4 : Nat, plJ n m k z = (S4, A4) := ⟨_, _, rfl⟩
          have hth := fun W hb => HTH.out W hb z hzN
          rw [h4] at hth
          rw [h3, h4] at hcr
          rw [h3] at hpb k0 k1 st
          rw [hsz] at hth
          dsimp only at hcr hpb k0 k1 hth
          have HITZ := Lib.hid hitz
          have HSZ := Lib.hid hsz
          have HTZ := Lib.hid hth
          have HCR := Lib.hid hcr
          have HST := Lib.hid st
          clear hcr hsn hsz hit hz h3 h4 hitz hth st
          go_wp2_with (first | (go_at_call 49; refine (HCR.out _).mono ?_; rintro e w5 ⟨rfl, b5⟩; have s6 := (HST.out.step b5).step ((Below.refl _ _).alloc (Nat.le_refl _) (.cells #[.int .i64 S4, .int .i64 A4] 54)); have j7 := HJB.out _ s6.below; obtain ⟨j0, j1, j2, j3, j4⟩ := j7; have HS6 := Lib.hid s6; clear s6 b5 HST HCR) | (go_at_call 48; refine (HTZ.out _ HS6.out.below).mono ?_; rintro e w7 ⟨rfl, b7⟩; have s8 := HS6.out.step b7; obtain ⟨k2, k3, f2, f3, -, -⟩ := PB_cells (s8.own _ List.mem_cons_self); have s9 := s8.putPl [] _ (plJ n m k (nx z)); have HS9 := Lib.hid s9; clear s8 s9 b7 HS6 j0 j1 j2 j3 j4))
          go_roundg (gk - 1)
          case rel => exact ⟨t + 1, z, by omega, by rw [HSZ.out], hzN, HITZ, HS9.out⟩
          case measure => omega
    · have hpT : p = T := by omega
      subst p
      rw [fillTo_all] at st
      have HST := Lib.hid st
      have HB := Lib.hid (HBW.out _ st.below)
      clear st
      go_wp2
      go_ret
      exact ⟨_, rfl, ⟨HB.out, fun s hs => (HST.out.own s hs).mono (by rw [HZ1.out]; omega), HST.out.apart⟩⟩
end Go.Proofs.Ytfpcfolcdpdomaa
