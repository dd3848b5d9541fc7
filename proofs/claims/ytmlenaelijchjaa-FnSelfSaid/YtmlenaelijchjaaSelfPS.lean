/- Contract: ChangeSelf of the reference. -/
import Derived.Test.YtmlenaelijchjaaSelfPW
import Derived.Test.YtmlenaelijchjaaDrawPairsW
namespace Go.Proofs.Ytmlenaelijchjaa
open Go.RowKit Go.Maps
set_option linter.unusedVariables false
set_option linter.unusedSimpArgs false
attribute [local go_sem ↓] Go.wp_at_zero Go.wp_at_succ

theorem all_map (s : List Int) {W : World} {gl : Nat} (h : CellsI W (some ⟨gl, 0, none⟩) s) :
    ∀ i u, (s.map (Value.int .i64))[i]? = some u → W.cell? ((⟨gl, 0, none⟩ : Addr).add i) = some u := by
  intro i u hu
  rw [List.getElem?_map] at hu
  have hi := (List.getElem?_eq_some_iff.1 (Option.map_eq_some_iff.1 hu).choose_spec.1).1
  rw [Go.WideShapes.add_plain, Nat.zero_add, cells0 h i hi, ← hu]
  simp [hi]
theorem St.addrI {w0 W : World} {a : Option Addr} {c : Nat} {xs : List Int} {segs : List Seg} (h : St w0 W segs) (i : Nat) (hi : segs[i]? = some (SI (.slice a xs.length c) xs)) (hx : 0 < xs.length) : ∃ g, a = some ⟨g, 0, none⟩ ∧ xs.length ≤ c := by
  obtain ⟨a8, c8, he8, hc8, _, _, _, hfr⟩ := (h.get i hi).shape
  cases he8
  rcases hfr with ⟨h0, _⟩ | ⟨g9, h9, _⟩
  · obtain ⟨b8, o8, hab, _⟩ := h.cellAt i hi (j := 0) hx
    rw [h0] at hab
    cases hab
  · exact ⟨g9, h9, hc8⟩

set_option maxRecDepth 100000 in
set_option maxHeartbeats 8000000 in
theorem l4Path_any (ao : Option Addr) (cap : Nat) (ss : List ByteArray) (q : Nat) (w : World) (hx : CellsS w ao ss) (hg : gridB ss = true) (hq : q < (gr ss).n * (gr ss).m) :
    Calls Try.prog 14 #[.slice ao ss.length cap, .int .i64 q, .int .i64 0] w fun e w' => ∃ v L, e = .returned v ∧ St w w' [SI v L] ∧ L.count (q : Int) = (gr ss).passN q ∧ L.length ≤ 300 := by
  have hok := gr_ok hg
  have hv : (gr ss).val (q, 0) := ⟨hq, by show 0 < 4; omega⟩
  by_cases hcy : Cyc (gr ss).nx (q, 0)
  · have hcl := Gr.closed_cyc hok hv hcy
    have H3 : Hid (Calls Try.prog 34 #[.slice ao ss.length cap, .int .i64 q, .int .i64 0] w _) := l3Close_any ao cap ss q 0 _ true w hx hg hv hcl
    have hN := hcl.le
    have HC := Lib.hid (Gr.self_round hok hq hcy)
    have HL := Lib.hid (Gr.cellsTo_length (gr ss) (q, 0) ((gr ss).per (q, 0)))
    clear hx hg hq hok hv hcy hcl
    generalize (gr ss).cellsTo (q, 0) ((gr ss).per (q, 0)) = L at *
    generalize (gr ss).dirsTo (q, 0) ((gr ss).per (q, 0)) = L2 at *
    generalize (gr ss).per (q, 0) = P at *
    go_enter Try.func14, Try.ntmps14
    go_wp2_with fail
    refine H3.out.mono ?_
    rintro e w2 ⟨v1, v2, rfl, st⟩
    have HST := Lib.hid st.drop0
    clear st H3
    go_wp2
    go_ret
    exact ⟨_, L, rfl, HST.out, HC.out, by rw [HL.out]; omega⟩
  · obtain ⟨k, y, k', y', hk, hk', e1, hy, e2, hy'⟩ := Gr.ends_both hok hv hcy
    have hvr := Gr.rev_val hok hv
    have hcy2 : ¬ Cyc (gr ss).nx ((gr ss).rev (q, 0)) := fun h => hcy (by
      have := (Gr.rvs hok).cyc_r hvr h
      rwa [Gr.rev_rev hok hv] at this)
    have hcl1 : (gr ss).Closed (q, 0) (k + 1) false := ⟨by omega, by omega, fun j hj _ h => hcy ⟨j, hj, h⟩, .inr ⟨rfl, by show (iter (gr ss).nx k (q, 0)).bind (gr ss).nx = none; rw [e1]; exact hy, y, e1⟩⟩
    have hcl2 : (gr ss).Closed ((gr ss).rev (q, 0)) (k' + 1) false := ⟨by omega, by omega, fun j hj _ h => hcy2 ⟨j, hj, h⟩, .inr ⟨rfl, by show (iter (gr ss).nx k' ((gr ss).rev (q, 0))).bind (gr ss).nx = none; rw [e2]; exact hy', y', e2⟩⟩
    have hrev : (gr ss).rev (q, 0) = (q, opp (bend ((gr ss).sig q) 0)) := rfl
    have HC := Lib.hid (Gr.self_beam hok hq e1 hy e2 hy')
    rw [hrev] at hcl2 hvr HC
    have H3 : Hid (Calls Try.prog 34 #[.slice ao ss.length cap, .int .i64 q, .int .i64 0] w _) := l3Close_any ao cap ss q 0 _ false w hx hg hv hcl1
    have H4 : Hid (∀ W segs, St w W segs → Calls Try.prog 34 #[.slice ao ss.length cap, .int .i64 q, .int .i64 (opp (bend ((gr ss).sig q) 0) : Nat)] W fun e w' => ∃ v1 v2, e = .returned (.tuple #[v1, v2, .bool false]) ∧ St W w' [SI v2 ((gr ss).dirsTo (q, opp (bend ((gr ss).sig q) 0)) (k' + 1)), SI v1 ((gr ss).cellsTo (q, opp (bend ((gr ss).sig q) 0)) (k' + 1))]) := fun W segs h =>
      l3Close_any ao cap ss q (opp (bend ((gr ss).sig q) 0)) _ false _ (h.oldS hx) hg hvr hcl2
    have HLC : Hid (∀ W segs, St w W segs → Calls Try.prog 25 #[.slice ao ss.length cap, .int .i64 q] W fun e w' => e = .returned (.int .u8 ((gr ss).sig q)) ∧ Dr W w') := fun W segs h =>
      l2Cell_any ao cap ss q _ (h.oldS hx) hg hq
    have HL := Lib.hid (Gr.cellsTo_length (gr ss) (q, 0) (k + 1))
    have HL4 := Lib.hid (Gr.cellsTo_length (gr ss) (q, opp (bend ((gr ss).sig q) 0)) (k' + 1))
    have HD := Lib.hid (Gr.dirsTo_length (gr ss) (q, 0) (k + 1))
    have HD0 : Hid (((gr ss).dirsTo (q, 0) (k + 1)).getD 0 0 = 0) := by
      show _ = _
      simp [Gr.dirsTo, Gr.wayTo, iter]
    have hb4 := bend_lt ((gr ss).sig q) (show 0 < 4 by omega)
    have hxo := xor_opp hb4
    clear hx hg hq hok hv hcy hcl1 hcl2 hvr hcy2 e1 hy e2 hy' hrev
    generalize (gr ss).cellsTo (q, 0) (k + 1) = L at *
    generalize (gr ss).dirsTo (q, 0) (k + 1) = L2 at *
    generalize (gr ss).cellsTo (q, opp (bend ((gr ss).sig q) 0)) (k' + 1) = L4 at *
    generalize (gr ss).dirsTo (q, opp (bend ((gr ss).sig q) 0)) (k' + 1) = L5 at *
    generalize (gr ss).sig q = sg at *
    go_enter Try.func14, Try.ntmps14
    go_wp2_with fail
    refine H3.out.mono ?_
    rintro e w2 ⟨v1, v2, rfl, st⟩
    obtain ⟨a1, c1, rfl⟩ := st.shapeI 1 rfl
    obtain ⟨a2, c2, rfl⟩ := st.shapeI0
    obtain ⟨b2, o2, rfl, hc2⟩ := st.cellAt 0 rfl (j := 0) (by rw [HD.out]; omega)
    rw [HD0.out, Nat.add_zero] at hc2
    obtain ⟨g1, rfl, hlc1⟩ := st.addrI 1 rfl (by rw [HL.out]; omega)
    have HST := Lib.hid (st.dr ⟨1, rfl⟩)
    have HCC : Hid (w2.cell? ⟨b2, o2, none⟩ = some (.int .i64 0)) := hc2
    have hl2 : 0 < L2.length := by rw [HD.out]; omega
    have hl2' : (0 : Int) < L2.length := by omega
    clear st H3 hc2
    go_wp2_with fail
    go_region_held3 (fun W => W.cell? ⟨b2, o2, none⟩ = some (.int .i64 0)) (first | exact HCC.out | exact HC9.out | exact HC10.out)
      ((first
        | (go_at_call 25; refine (HLC.out _ _ HST.out).mono ?_; rintro e w9 ⟨rfl, d9⟩; have ST9 := Lib.hid (HST.out.dr d9); obtain ⟨b9, o9, he9, hc9⟩ := ST9.out.cellAt 0 rfl (j := 0) (by rw [HD.out]; omega); cases he9; rw [HD0.out, Nat.add_zero] at hc9; have HC9 := Lib.hid hc9; clear d9 hc9)
        | (go_at_call 35; refine (l2Bend_any sg 0 _ (by omega)).mono ?_; rintro e w8 ⟨rfl, rfl⟩)
        | (go_at_call 34; refine (H4.out _ _ ST9.out).mono ?_; rintro e w10 ⟨v4, v5, rfl, s10⟩; have ST10 := Lib.hid (ST9.out.join s10); obtain ⟨b9, o9, he9, hc10⟩ := ST10.out.cellAt 2 rfl (j := 0) (by rw [HD.out]; omega); cases he9; rw [HD0.out, Nat.add_zero] at hc10; have HC10 := Lib.hid hc10; clear s10 hc10; obtain ⟨a4, c4, hv4⟩ := ST10.out.shapeI 1 rfl; obtain ⟨a5, c5, hv5⟩ := ST10.out.shapeI 0 rfl; subst hv4 hv5)))
    all_goals
      obtain ⟨g4, rfl, hlc4⟩ := ST10.out.addrI 1 rfl (by rw [HL4.out]; omega)
      have s6 : St w w10 [SI (.slice (some ⟨g4, 0, none⟩) L4.length c4) L4, SI (.slice (some ⟨g1, 0, none⟩) L.length c1) L] := ST10.out.drop0.drop1
      have hl4 : 1 ≤ L4.length := by rw [HL4.out]; omega
      have hl4m : L4.length ≤ 100 := by rw [HL4.out]; omega
      have hlm : L.length ≤ 100 := by rw [HL.out]; omega
      clear HST HCC ST9 HC9 HC10 ST10 HLC H4 hl2 hl2' HD HD0 hxo
      obtain ⟨AD2, hAD2, hn2⟩ := news_tail (gl := g4) (k := 1) (c := c4) (L := L4) hl4 hlc4
      have HA := Lib.hid hAD2
      have HN := Lib.hid hn2
      have HS1 := Lib.hid ((s6.addSeg (s := SI (.slice (some ⟨w10.heap.size, 0, none⟩) 0 0) []) (World.ownsRow_made w10 #[] 0 (Nat.le_refl _) (Nat.zero_le _) rfl) ((Below.refl _ _).alloc (Nat.le_refl _) (.cells #[] 3))).dr ⟨1, rfl⟩)
      clear s6 hAD2 hn2
      have i1 : (1 : Int) ≤ L4.length := by omega
      have i2 : (L4.length : Int) ≤ c4 := by omega
      have i3 : (L.length : Int) ≤ c1 := by omega
      have i4 : (1 : Int) ≤ c4 := by omega
      go_wp2_with fail
      go_region_law (first
        | (refine step_appendSt elemI rfl (.tmp 38) (.tmp 39) rfl w.heap.size (SI (.slice (some ⟨w10.heap.size, 0, none⟩) 0 0) []) rfl rfl rfl (HS1.out.own _ List.mem_cons_self) _ ⟨g1, 0, none⟩ _ _ (L.map (Value.int .i64)) rfl rfl ?_ ?_ (ints_one _) ?_ ?_ ?_
           · simp only [List.length_map, Nat.mul_one]
           · exact all_map L (HS1.out.cells 2 rfl)
           · simp only [SI]; unfold maxLen; simp; omega
           · simp only [SI]; simp; omega
           intro v6 w6 hb1
           have HB1 := Lib.hid (HS1.out.became0 hb1)
           clear hb1)
        | (refine step_appendSt elemI rfl (.tmp 40) (.tmp 42) rfl w.heap.size _ rfl rfl rfl (HB1.out.own _ List.mem_cons_self) _ AD2 _ _ ((L4.drop 1).map (Value.int .i64)) rfl HA.out ?_ ?_ (ints_one _) ?_ ?_ ?_
           · simp only [List.length_map, Nat.mul_one, List.length_drop]
           · exact HN.out _ (HB1.out.cells 1 rfl)
           · simp only [SI]; unfold maxLen; simp; omega
           · simp only [SI]; simp; omega
           intro v7 w7 hb2
           have HB2 := Lib.hid (HB1.out.became0 hb2)
           clear hb2))
      all_goals
        have e9 : (⟨v7, 3, 1, 0 + L.length + (L4.length - 1), ([] ++ L.map (Value.int .i64)) ++ (L4.drop 1).map (Value.int .i64)⟩ : Seg) = SI v7 (L ++ L4.drop 1) := by
          simp only [SI, List.nil_append, List.length_append, List.length_drop, List.map_append, Nat.zero_add]
        have s9 : St w w7 [SI v7 (L ++ L4.drop 1)] := by
          rw [← e9]; exact HB2.out.drop1.drop1
        have HS9 := Lib.hid s9
        have HLE : Hid ((L ++ L4.drop 1).length ≤ 300) := by show _ ≤ _; rw [List.length_append, List.length_drop]; omega
        clear s9 e9 HB2 HB1 HS1 HA HN
        go_wp2_with fail
        all_goals
          go_ret
          first | exact ⟨_, rfl, L ++ L4.drop 1, HS9.out, HC.out, HLE.out⟩ | exact ⟨_, L ++ L4.drop 1, rfl, HS9.out, HC.out, HLE.out⟩

set_option maxRecDepth 100000 in
theorem sChangeSelf_any (ao : Option Addr) (cap : Nat) (ss : List ByteArray) (c : Int) (w : World) (hx : CellsS w ao ss) (hm : ss.length ≤ maxLen) (hsz : ∀ s ∈ ss, s.size ≤ maxLen) :
    Calls Try.prog 6 #[.slice ao ss.length cap, .int .i64 c] w fun e w' => e = .returned (.bool (selfB ss c)) ∧ Below w.heap.size w w' := by
  have HG := Lib.hid (l4Given_any ao cap ss c w hx hm hsz)
  cases hb : cellB ss c
  · have HB := Lib.hid hb
    have HL := Lib.hid (show selfB ss c = false by simp [selfB, hb])
    clear hb hx hsz
    go_enter Try.func6, Try.ntmps6
    go_wp2_with fail
    refine HG.out.mono ?_
    rintro e w2 ⟨rfl, d⟩
    rw [HB.out]
    have HD := Lib.hid d
    clear d
    go_wp2
    go_ret
    exact ⟨by rw [HL.out]; rfl, HD.out.below _⟩
  · obtain ⟨hg, q, rfl, hq⟩ := cellB_nat hb
    have HB := Lib.hid hb
    have HL := Lib.hid (show selfB ss q = ((gr ss).passN q == 2) by simp [selfB, hb])
    have HP := Lib.hid fun W (h : CellsS W ao ss) => l4Path_any ao cap ss q W h hg hq
    have HX := Lib.hid hx
    clear hb hx hsz hg hq
    go_enter Try.func6, Try.ntmps6
    go_wp2_with fail
    refine HG.out.mono ?_
    rintro e w2 ⟨rfl, d⟩
    rw [HB.out]
    have HBD := Lib.hid (d.below w.heap.size)
    clear d
    go_wp2_with fail
    refine (HP.out _ (HX.out.below HBD.out (Nat.le_refl _))).mono ?_
    rintro e w3 ⟨v, L, rfl, st, hc, hl⟩
    obtain ⟨a, k, rfl⟩ := st.shapeI0
    have HST := Lib.hid st
    have HC := Lib.hid hc
    have HLM := Lib.hid hl
    clear st hc hl
    go_wp2_with fail
    refine (l2Often_any a k L q _ (HST.out.cells 0 rfl) (Nat.le_trans HLM.out (by decide))).mono ?_
    rintro e w4 ⟨rfl, rfl⟩
    rw [HC.out]
    have HBB : Hid (Below w.heap.size w w3) := HBD.out.trans (HST.out.below.mono HBD.out.size)
    cases hN : ((gr ss).passN q == 2)
    all_goals
      have hN' : ((((gr ss).passN q : Nat) : Int) == 2) = ((gr ss).passN q == 2) := by
        rw [Bool.eq_iff_iff, beq_iff_eq, beq_iff_eq]; omega
      rw [hN] at hN'
      have HN := Lib.hid hN
      generalize (gr ss).passN q = N at *
      clear hN
      go_wp2
      go_ret
      exact ⟨by rw [HL.out, HN.out]; first | rfl | (rw [← hN']; rfl), HBB.out⟩
end Go.Proofs.Ytmlenaelijchjaa
