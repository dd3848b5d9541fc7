/- Contract: the reference's RoundLengths. -/
import Derived.Test.YtoodfgfbppkbmaaLensIW
import Derived.Test.YtoodfgfbppkbmaaDrawPairsW
import Derived.Test.YtoodfgfbppkbmaaRounds3W
import Derived.Deep.DrawnRows
namespace Go.Proofs.Ytoodfgfbppkbmaa
open Go.RowKit
set_option linter.unusedVariables false
set_option linter.unusedSimpArgs false
attribute [local go_sem ↓] Go.wp_at_zero Go.wp_at_succ

theorem take_map (s : List Int) {W : World} {gl : Nat} {j : Nat} (h : CellsI W (some ⟨gl, 0, none⟩) s) (hj : j ≤ s.length) :
    ∀ i u, ((s.take j).map (Value.int .i64))[i]? = some u → W.cell? ((⟨gl, 0, none⟩ : Addr).add i) = some u := by
  intro i u hu
  rw [List.getElem?_map] at hu
  have hi : i < j := by
    have := (List.getElem?_eq_some_iff.1 (Option.map_eq_some_iff.1 hu).choose_spec.1).1
    simp at this; omega
  rw [Go.WideShapes.add_plain, Nat.zero_add, cells0 h i (by omega)]
  rw [← hu]
  simp [hi, show i < s.length by omega]

set_option maxRecDepth 100000 in
set_option maxHeartbeats 8000000 in
theorem sRoundLengths_any (ao : Option Addr) (cap : Nat) (ss : List ByteArray) (w : World) (hx : CellsS w ao ss) (hm : ss.length ≤ maxLen) (hsz : ∀ s ∈ ss, s.size ≤ maxLen) :
    Calls Try.prog 19 #[.slice ao ss.length cap] w fun e w' => ∃ v, e = .returned (.tuple #[v, .bool (gridB ss)]) ∧ St w w' [SI v (lensS ss)] := by
  have STA := Lib.hid ((St.init w).addSeg (s := SI (.slice (some ⟨w.heap.size, 0, none⟩) 0 0) []) (World.ownsRow_made w #[] 0 (Nat.le_refl _) (Nat.zero_le _) rfl) ((Below.refl _ _).alloc (Nat.le_refl _) (.cells #[] 3)))
  have hx1 := STA.out.oldS hx
  have HGI := Lib.hid (sGridIn_any ao cap ss _ hx1 hm hsz)
  cases hg : gridB ss
  · have HG := Lib.hid hg
    have HP := Lib.hid (show lensS ss = [] by simp [lensS, hg])
    clear hg hx hx1 hsz
    go_enter Try.func19, Try.ntmps19
    go_wp2_with fail
    refine HGI.out.mono ?_
    rintro e w2 ⟨rfl, d⟩
    rw [HG.out]
    have HS2 := Lib.hid (STA.out.dr d)
    clear d
    go_wp2
    go_ret2
    exact ⟨_, rfl, by rw [HP.out]; exact HS2.out⟩
  · have hok := gr_ok hg
    have HG := Lib.hid hg
    have hP : lensS ss = sortL ((gr ss).lens (4 * ((gr ss).n * (gr ss).m))) := by simp [lensS, hg]
    have HLR := Lib.hid fun W (h : CellsS W ao ss) => l3Rounds_any ao cap ss W h hg
    have h12 := Gr.rmany_twelve hok
    have hLL := Gr.lens_length (gr ss) (4 * ((gr ss).n * (gr ss).m))
    have hL12 : ((gr ss).lens (4 * ((gr ss).n * (gr ss).m))).length ≤ 12 := by rw [hLL]; exact h12
    have HPL := Lib.hid hP
    have HX := Lib.hid hx
    clear hx hx1 hg hok hsz h12 hLL hP
    generalize (gr ss).lens (4 * ((gr ss).n * (gr ss).m)) = L at *
    go_enter Try.func19, Try.ntmps19
    go_wp2_with fail
    refine HGI.out.mono ?_
    rintro e w2 ⟨rfl, d⟩
    rw [HG.out]
    have HS2 := Lib.hid (STA.out.dr d)
    clear d STA HGI
    go_wp2_with fail
    refine (HLR.out _ (HS2.out.oldS HX.out)).mono ?_
    rintro e w3 ⟨v3, rfl, s3⟩
    have st := HS2.out.join s3
    obtain ⟨a3, c3, rfl⟩ := st.shapeI0
    replace st := st.permL (List.Perm.swap _ _ _)
    have HST0 := Lib.hid st
    have HTL := Lib.hid (sortTo_length L)
    have HEND : Hid (sortTo L L.length = sortL L) := rfl
    have HNX : Hid (∀ i, sortTo L (i + 1) = insR (sortTo L i) (L.getD i 0)) := fun _ => rfl
    have HZ : Hid (sortTo L 0 = []) := rfl
    clear s3 st HS2 HLR
    obtain ⟨R, hR⟩ : ∃ R, R = L.length := ⟨_, rfl⟩
    have HR := Lib.hid hR
    rw [← hR] at hL12 HEND HST0 ⊢
    clear hR
    go_wp2_with fail
    go_loopg [4, 6] R (fun kk vo vi wr => ∃ (i : Nat) (a : Option Addr) (c : Nat), kk + i = R ∧ vi = .int .i64 i ∧ vo = .slice a i c ∧ i ≤ c ∧ (∃ gl, a = some ⟨gl, 0, none⟩) ∧ St w wr [SI (.slice a i c) (sortTo L i), SI (.slice a3 R c3) L])
    case atStart => exact ⟨0, _, _, by omega, rfl, rfl, Nat.zero_le _, ⟨_, rfl⟩, HST0.out⟩
    case round =>
      clear HST0
      obtain ⟨i, a, c, hi, rfl, rfl, hic, ⟨gl, rfl⟩, st⟩ := hrel
      generalize gk = ko at *
      by_cases hlt : i < R
      · have HNX1 := Lib.hid (HNX.out i)
        have HTL1 := Lib.hid (HTL.out i)
        have HTL2 := Lib.hid (HTL.out (i + 1))
        have HX3 : Hid (∀ W v s, St w W [SI v s, SI (.slice a3 R c3) L] → ∃ b off, a3 = some ⟨b, off, none⟩ ∧ W.cell? ⟨b, off + i, none⟩ = some (.int .i64 (L.getD i 0))) := fun W v s h => h.cellAt 1 rfl (by rw [← HR.out]; exact hlt)
        obtain ⟨x, hxx⟩ : ∃ x, x = L.getD i 0 := ⟨_, rfl⟩
        have HLX := Lib.hid hxx.symm
        rw [← hxx] at HNX1 HX3
        clear hxx
        generalize sortTo L i = s at *
        have HST := Lib.hid st
        clear st
        go_wp2_with fail
        go_loopg [7] i (fun kk v7 wq => ∃ j : Nat, kk = j ∧ j ≤ i ∧ v7 = .int .i64 j ∧ posR s x i = posR s x j ∧ St w wq [SI (.slice (some ⟨gl, 0, none⟩) i c) s, SI (.slice a3 R c3) L])
        case atStart => exact ⟨i, rfl, Nat.le_refl _, rfl, rfl, HST.out⟩
        case round =>
          clear HST
          obtain ⟨j, hkj, hji, rfl, hpos, st⟩ := hrel
          obtain ⟨b3, o3, rfl, hcx⟩ := HX3.out _ _ _ st
          by_cases hex : j = 0 ∨ ∃ j', j = j' + 1 ∧ ¬ x < s.getD j' 0
          · have hp : posR s x s.length = j := by
              rw [HTL1.out, hpos]
              rcases hex with rfl | ⟨j', rfl, hx⟩
              · rfl
              · show (if x < s.getD j' 0 then _ else _) = _
                rw [if_neg hx]
            have HIN : Hid (s.take j ++ [x] ++ s.drop j = sortTo L (i + 1)) := by
              show _ = _
              rw [HNX1.out]
              unfold insR
              rw [hp]
              simp
            clear hp
            rcases hex with h0 | ⟨j', h0, hx⟩
            · have e0 : decide ((j : Int) > 0) = false := decide_eq_false (by omega)
              have e0' : decide (0 < j) = false := decide_eq_false (by omega)
              clear hpos h0
              have HST := Lib.hid st
              clear st
              go_wp2_with fail
              go_quiet (fail)
              have s6 := HST.out.step (below_dn (Below.refl _ _) nq)
              generalize wr.drewN nq = W3 at s6 ⊢
              clear hcx HST
              go_wp2_with fail
              obtain ⟨b', o', he, hcx⟩ := HX3.out _ _ _ s6
              cases he
              obtain ⟨AD2, hAD2, hn2⟩ := news_tail (gl := gl) (k := j) (c := c) (L := s) (by rw [HTL1.out]; exact hji) (by rw [HTL1.out]; exact hic)
              have HA := Lib.hid hAD2
              have HN := Lib.hid hn2
              have hs1 := s6.addSeg (s := SI (.slice (some ⟨W3.heap.size, 0, none⟩) 0 0) []) (World.ownsRow_made W3 #[] 0 (Nat.le_refl _) (Nat.zero_le _) rfl) ((Below.refl _ _).alloc (Nat.le_refl _) (.cells #[] 3))
              have HS1 := Lib.hid (hs1.dr ⟨1, rfl⟩)
              have hs2 := (hs1.addSeg (s := SI (.slice (some ⟨(W3.alloc (.cells #[] 3)).heap.size, 0, none⟩) 1 1) [x]) (World.ownsRow_lit _ #[.int .i64 x] 1 (Nat.le_refl _) (by unfold maxLen; omega) rfl) ((Below.refl _ _).alloc (Nat.le_refl _) (.cells #[.int .i64 x] 3))).dr ⟨1, rfl⟩
              rw [World.size_alloc] at hs2
              have HSA := Lib.hid hs2
              clear hs2
              have hs3 := ((s6.addSeg (s := SI (.slice (some ⟨W3.heap.size, 0, none⟩) 1 1) [x]) (World.ownsRow_lit _ #[.int .i64 x] 1 (Nat.le_refl _) (by unfold maxLen; omega) rfl) ((Below.refl _ _).alloc (Nat.le_refl _) (.cells #[.int .i64 x] 3))).addSeg (s := SI (.slice (some ⟨(W3.alloc (.cells #[.int .i64 x] 3)).heap.size, 0, none⟩) 0 0) []) (World.ownsRow_made _ #[] 0 (Nat.le_refl _) (Nat.zero_le _) rfl) ((Below.refl _ _).alloc (Nat.le_refl _) (.cells #[] 3))).dr ⟨1, rfl⟩
              rw [World.size_alloc] at hs3
              have HSB := Lib.hid hs3
              clear hs3
              have hcxB := cell_alloc_lt (o := .cells #[.int .i64 x] 3) hcx
              clear hs1
              have hcxA := cell_alloc_lt (o := .cells #[] 3) hcx
              clear hAD2 hn2
              have HTJ : Hid ((s.take j).length = j) := by show _ = _; rw [List.length_take, HTL1.out]; omega
              have HDJ : Hid ((s.drop j).length = i - j) := by show _ = _; rw [List.length_drop, HTL1.out]
              have i1 : (j : Int) ≤ c := by omega
              have i2 : (j : Int) ≤ i := by omega
              have i3 : (i : Int) ≤ c := by omega
              go_region_law (first
                | (refine step_appendSt elemI rfl (.tmp 39) (.tmp 42) rfl w.heap.size (SI (.slice (some ⟨W3.heap.size, 0, none⟩) 0 0) []) rfl rfl rfl (HS1.out.own _ List.mem_cons_self) _ ⟨gl, 0, none⟩ _ _ ((s.take j).map (Value.int .i64)) rfl rfl ?_ ?_ (ints_one _) ?_ ?_ ?_
                   · simp only [List.length_map, Nat.mul_one]; exact HTJ.out
                   · exact take_map s (HS1.out.cells 1 rfl) (by rw [HTL1.out]; exact hji)
                   · simp only [SI]; unfold maxLen; simp; omega
                   · simp only [SI]; simp; omega
                   intro v1 w4 hb1
                   have hb1' := HS1.out.became0 hb1
                   obtain ⟨b4, o4, he4, hcx4⟩ := hb1'.cellAt 2 rfl (j := i) (by rw [← HR.out]; exact hlt)
                   cases he4
                   rw [HLX.out] at hcx4
                   have HB1 := Lib.hid (hb1'.addSeg (s := SI (.slice (some ⟨w4.heap.size, 0, none⟩) 1 1) [x]) (World.ownsRow_lit _ #[.int .i64 x] 1 (Nat.le_refl _) (by unfold maxLen; omega) rfl) ((Below.refl _ _).alloc (Nat.le_refl _) (.cells #[.int .i64 x] 3)))
                   clear hb1 hb1')
                | (refine step_appendSt elemI rfl (.tmp 39) (.tmp 42) rfl w.heap.size (SI (.slice (some ⟨W3.heap.size, 0, none⟩) 0 0) []) rfl rfl rfl (HSA.out.own _ (List.mem_cons_of_mem _ List.mem_cons_self)) _ ⟨gl, 0, none⟩ _ _ ((s.take j).map (Value.int .i64)) rfl rfl ?_ ?_ (ints_one _) ?_ ?_ ?_
                   · simp only [List.length_map, Nat.mul_one]; exact HTJ.out
                   · exact take_map s (HSA.out.cells 2 rfl) (by rw [HTL1.out]; exact hji)
                   · simp only [SI]; unfold maxLen; simp; omega
                   · simp only [SI]; simp; omega
                   intro v1 w4 hb1
                   have HB1 := Lib.hid (St.became [_] [_, _] _ _ HSA.out hb1)
                   clear hb1)
                | (refine step_appendSt elemI rfl (.tmp 39) (.tmp 42) rfl w.heap.size (SI (.slice (some ⟨W3.heap.size + 1, 0, none⟩) 0 0) []) rfl rfl rfl (HSB.out.own _ List.mem_cons_self) _ ⟨gl, 0, none⟩ _ _ ((s.take j).map (Value.int .i64)) rfl rfl ?_ ?_ (ints_one _) ?_ ?_ ?_
                   · simp only [List.length_map, Nat.mul_one]; exact HTJ.out
                   · exact take_map s (HSB.out.cells 2 rfl) (by rw [HTL1.out]; exact hji)
                   · simp only [SI]; unfold maxLen; simp; omega
                   · simp only [SI]; simp; omega
                   intro v1 w4 hb1
                   have HB1 := Lib.hid (HSB.out.became0 hb1).swap
                   clear hb1)
                | (refine step_appendSt elemI rfl (.tmp 43) (.tmp 48) rfl w.heap.size _ rfl rfl rfl (HB1.out.own _ (List.mem_cons_of_mem _ List.mem_cons_self)) _ _ 1 1 [.int .i64 x] rfl (by first | rfl | simp only [World.size_alloc]) rfl ?_ ?_ ?_ ?_ ?_
                   · intro k u hu
                     exact take_map [x] (j := 1) (HB1.out.cells 0 rfl) (by simp) k u (by simpa using hu)
                   · intro u hu
                     rw [List.mem_singleton.1 hu]
                     rfl
                   · simp only [SI]; unfold maxLen; simp; omega
                   · simp only [SI]; simp; omega
                   intro v2 w5 hb2
                   have HB2 := Lib.hid (St.became [_] [_, _] _ _ HB1.out hb2)
                   clear hb2)
                | (refine step_appendSt elemI rfl (.tmp 49) (.tmp 52) rfl w.heap.size _ rfl rfl rfl (HB2.out.own _ (List.mem_cons_of_mem _ List.mem_cons_self)) _ AD2 _ _ ((s.drop j).map (Value.int .i64)) rfl HA.out ?_ ?_ (ints_one _) ?_ ?_ ?_
                   · simp only [List.length_map, Nat.mul_one]; exact HDJ.out
                   · exact HN.out _ (HB2.out.cells 2 rfl)
                   · simp only [SI]; unfold maxLen; simp; omega
                   · simp only [SI]; simp; omega
                   intro v3 w6 hb3
                   have HB3 := Lib.hid (St.became [_] [_, _] _ _ HB2.out hb3)
                   clear hb3))
              all_goals
                have e9 : (⟨v3, 3, 1, 0 + j + 1 + (i - j), (([] ++ (s.take j).map (Value.int .i64)) ++ [.int .i64 x]) ++ (s.drop j).map (Value.int .i64)⟩ : Seg) = SI v3 (s.take j ++ [x] ++ s.drop j) := by
                  simp only [SI, List.nil_append, List.length_append, HTJ.out, HDJ.out, List.map_append, Nat.zero_add, List.length_singleton, List.map_cons, List.map_nil]
                have s9 : St w w6 [SI v3 (s.take j ++ [x] ++ s.drop j), SI (.slice (some ⟨b3, o3, none⟩) R c3) L] := by
                  rw [← e9]; exact HB3.out.drop0.drop1
                rw [HIN.out] at s9
                obtain ⟨a9, c9, hv9, hc9, _⟩ := (s9.get 0 rfl).shape
                rw [HTL2.out] at hv9 hc9
                subst hv9
                obtain ⟨gl9, rfl⟩ : ∃ g9, a9 = some ⟨g9, 0, none⟩ := by
                  obtain ⟨a8, c8, he8, _, _, _, _, hfr⟩ := (s9.get 0 rfl).shape
                  rw [HTL2.out] at he8
                  cases he8
                  rcases hfr with ⟨h0, _⟩ | ⟨g9, h9, _⟩
                  · obtain ⟨b8, o8, hab, _⟩ := s9.cellAt 0 rfl (j := 0) (by rw [HTL2.out]; omega)
                    rw [h0] at hab
                    cases hab
                  · exact ⟨g9, h9⟩
                have HS9 := Lib.hid s9
                clear s9 e9 HB3 HB2 HB1 HSA HS1 HSB s6 HA HN
                go_wp2_with fail
                all_goals
                  go_roundg (ko - 1)
                  case rel => exact ⟨i + 1, _, c9, by omega, by go_num, rfl, hc9, ⟨gl9, rfl⟩, HS9.out⟩
                  case measure => omega
            · obtain ⟨b', o', he, hc2⟩ := st.cellAt 0 rfl (j := j') (by rw [HTL1.out]; omega)
              cases he
              rw [Nat.zero_add] at hc2
              have hd : decide (x < s.getD j' 0) = false := decide_eq_false hx
              generalize s.getD j' 0 = y at hc2 hd
              have e0 : decide ((j : Int) > 0) = true := decide_eq_true (by omega)
              have e0' : decide (0 < j) = true := decide_eq_true (by omega)
              have e7 : (j : Int) - 1 = j' := by omega
              have e8 : (j' : Int) < i := by omega
              clear hpos h0
              have HST := Lib.hid st
              clear st
              go_wp2_with fail
              go_region
              have s6 : St w wr.drew _ := HST.out.dr ⟨1, rfl⟩
              generalize wr.drew = W3 at s6 ⊢
              clear hcx hc2 HST hd
              go_wp2_with fail
              obtain ⟨b', o', he, hcx⟩ := HX3.out _ _ _ s6
              cases he
              obtain ⟨AD2, hAD2, hn2⟩ := news_tail (gl := gl) (k := j) (c := c) (L := s) (by rw [HTL1.out]; exact hji) (by rw [HTL1.out]; exact hic)
              have HA := Lib.hid hAD2
              have HN := Lib.hid hn2
              have hs1 := s6.addSeg (s := SI (.slice (some ⟨W3.heap.size, 0, none⟩) 0 0) []) (World.ownsRow_made W3 #[] 0 (Nat.le_refl _) (Nat.zero_le _) rfl) ((Below.refl _ _).alloc (Nat.le_refl _) (.cells #[] 3))
              have HS1 := Lib.hid (hs1.dr ⟨1, rfl⟩)
              have hs2 := (hs1.addSeg (s := SI (.slice (some ⟨(W3.alloc (.cells #[] 3)).heap.size, 0, none⟩) 1 1) [x]) (World.ownsRow_lit _ #[.int .i64 x] 1 (Nat.le_refl _) (by unfold maxLen; omega) rfl) ((Below.refl _ _).alloc (Nat.le_refl _) (.cells #[.int .i64 x] 3))).dr ⟨1, rfl⟩
              rw [World.size_alloc] at hs2
              have HSA := Lib.hid hs2
              clear hs2
              have hs3 := ((s6.addSeg (s := SI (.slice (some ⟨W3.heap.size, 0, none⟩) 1 1) [x]) (World.ownsRow_lit _ #[.int .i64 x] 1 (Nat.le_refl _) (by unfold maxLen; omega) rfl) ((Below.refl _ _).alloc (Nat.le_refl _) (.cells #[.int .i64 x] 3))).addSeg (s := SI (.slice (some ⟨(W3.alloc (.cells #[.int .i64 x] 3)).heap.size, 0, none⟩) 0 0) []) (World.ownsRow_made _ #[] 0 (Nat.le_refl _) (Nat.zero_le _) rfl) ((Below.refl _ _).alloc (Nat.le_refl _) (.cells #[] 3))).dr ⟨1, rfl⟩
              rw [World.size_alloc] at hs3
              have HSB := Lib.hid hs3
              clear hs3
              have hcxB := cell_alloc_lt (o := .cells #[.int .i64 x] 3) hcx
              clear hs1
              have hcxA := cell_alloc_lt (o := .cells #[] 3) hcx
              clear hAD2 hn2
              have HTJ : Hid ((s.take j).length = j) := by show _ = _; rw [List.length_take, HTL1.out]; omega
              have HDJ : Hid ((s.drop j).length = i - j) := by show _ = _; rw [List.length_drop, HTL1.out]
              have i1 : (j : Int) ≤ c := by omega
              have i2 : (j : Int) ≤ i := by omega
              have i3 : (i : Int) ≤ c := by omega
              go_region_law (first
                | (refine step_appendSt elemI rfl (.tmp 39) (.tmp 42) rfl w.heap.size (SI (.slice (some ⟨W3.heap.size, 0, none⟩) 0 0) []) rfl rfl rfl (HS1.out.own _ List.mem_cons_self) _ ⟨gl, 0, none⟩ _ _ ((s.take j).map (Value.int .i64)) rfl rfl ?_ ?_ (ints_one _) ?_ ?_ ?_
                   · simp only [List.length_map, Nat.mul_one]; exact HTJ.out
                   · exact take_map s (HS1.out.cells 1 rfl) (by rw [HTL1.out]; exact hji)
                   · simp only [SI]; unfold maxLen; simp; omega
                   · simp only [SI]; simp; omega
                   intro v1 w4 hb1
                   have hb1' := HS1.out.became0 hb1
                   obtain ⟨b4, o4, he4, hcx4⟩ := hb1'.cellAt 2 rfl (j := i) (by rw [← HR.out]; exact hlt)
                   cases he4
                   rw [HLX.out] at hcx4
                   have HB1 := Lib.hid (hb1'.addSeg (s := SI (.slice (some ⟨w4.heap.size, 0, none⟩) 1 1) [x]) (World.ownsRow_lit _ #[.int .i64 x] 1 (Nat.le_refl _) (by unfold maxLen; omega) rfl) ((Below.refl _ _).alloc (Nat.le_refl _) (.cells #[.int .i64 x] 3)))
                   clear hb1 hb1')
                | (refine step_appendSt elemI rfl (.tmp 39) (.tmp 42) rfl w.heap.size (SI (.slice (some ⟨W3.heap.size, 0, none⟩) 0 0) []) rfl rfl rfl (HSA.out.own _ (List.mem_cons_of_mem _ List.mem_cons_self)) _ ⟨gl, 0, none⟩ _ _ ((s.take j).map (Value.int .i64)) rfl rfl ?_ ?_ (ints_one _) ?_ ?_ ?_
                   · simp only [List.length_map, Nat.mul_one]; exact HTJ.out
                   · exact take_map s (HSA.out.cells 2 rfl) (by rw [HTL1.out]; exact hji)
                   · simp only [SI]; unfold maxLen; simp; omega
                   · simp only [SI]; simp; omega
                   intro v1 w4 hb1
                   have HB1 := Lib.hid (St.became [_] [_, _] _ _ HSA.out hb1)
                   clear hb1)
                | (refine step_appendSt elemI rfl (.tmp 39) (.tmp 42) rfl w.heap.size (SI (.slice (some ⟨W3.heap.size + 1, 0, none⟩) 0 0) []) rfl rfl rfl (HSB.out.own _ List.mem_cons_self) _ ⟨gl, 0, none⟩ _ _ ((s.take j).map (Value.int .i64)) rfl rfl ?_ ?_ (ints_one _) ?_ ?_ ?_
                   · simp only [List.length_map, Nat.mul_one]; exact HTJ.out
                   · exact take_map s (HSB.out.cells 2 rfl) (by rw [HTL1.out]; exact hji)
                   · simp only [SI]; unfold maxLen; simp; omega
                   · simp only [SI]; simp; omega
                   intro v1 w4 hb1
                   have HB1 := Lib.hid (HSB.out.became0 hb1).swap
                   clear hb1)
                | (refine step_appendSt elemI rfl (.tmp 43) (.tmp 48) rfl w.heap.size _ rfl rfl rfl (HB1.out.own _ (List.mem_cons_of_mem _ List.mem_cons_self)) _ _ 1 1 [.int .i64 x] rfl (by first | rfl | simp only [World.size_alloc]) rfl ?_ ?_ ?_ ?_ ?_
                   · intro k u hu
                     exact take_map [x] (j := 1) (HB1.out.cells 0 rfl) (by simp) k u (by simpa using hu)
                   · intro u hu
                     rw [List.mem_singleton.1 hu]
                     rfl
                   · simp only [SI]; unfold maxLen; simp; omega
                   · simp only [SI]; simp; omega
                   intro v2 w5 hb2
                   have HB2 := Lib.hid (St.became [_] [_, _] _ _ HB1.out hb2)
                   clear hb2)
                | (refine step_appendSt elemI rfl (.tmp 49) (.tmp 52) rfl w.heap.size _ rfl rfl rfl (HB2.out.own _ (List.mem_cons_of_mem _ List.mem_cons_self)) _ AD2 _ _ ((s.drop j).map (Value.int .i64)) rfl HA.out ?_ ?_ (ints_one _) ?_ ?_ ?_
                   · simp only [List.length_map, Nat.mul_one]; exact HDJ.out
                   · exact HN.out _ (HB2.out.cells 2 rfl)
                   · simp only [SI]; unfold maxLen; simp; omega
                   · simp only [SI]; simp; omega
                   intro v3 w6 hb3
                   have HB3 := Lib.hid (St.became [_] [_, _] _ _ HB2.out hb3)
                   clear hb3))
              all_goals
                have e9 : (⟨v3, 3, 1, 0 + j + 1 + (i - j), (([] ++ (s.take j).map (Value.int .i64)) ++ [.int .i64 x]) ++ (s.drop j).map (Value.int .i64)⟩ : Seg) = SI v3 (s.take j ++ [x] ++ s.drop j) := by
                  simp only [SI, List.nil_append, List.length_append, HTJ.out, HDJ.out, List.map_append, Nat.zero_add, List.length_singleton, List.map_cons, List.map_nil]
                have s9 : St w w6 [SI v3 (s.take j ++ [x] ++ s.drop j), SI (.slice (some ⟨b3, o3, none⟩) R c3) L] := by
                  rw [← e9]; exact HB3.out.drop0.drop1
                rw [HIN.out] at s9
                obtain ⟨a9, c9, hv9, hc9, _⟩ := (s9.get 0 rfl).shape
                rw [HTL2.out] at hv9 hc9
                subst hv9
                obtain ⟨gl9, rfl⟩ : ∃ g9, a9 = some ⟨g9, 0, none⟩ := by
                  obtain ⟨a8, c8, he8, _, _, _, _, hfr⟩ := (s9.get 0 rfl).shape
                  rw [HTL2.out] at he8
                  cases he8
                  rcases hfr with ⟨h0, _⟩ | ⟨g9, h9, _⟩
                  · obtain ⟨b8, o8, hab, _⟩ := s9.cellAt 0 rfl (j := 0) (by rw [HTL2.out]; omega)
                    rw [h0] at hab
                    cases hab
                  · exact ⟨g9, h9⟩
                have HS9 := Lib.hid s9
                clear s9 e9 HB3 HB2 HB1 HSA HS1 HSB s6 HA HN
                go_wp2_with fail
                all_goals
                  go_roundg (ko - 1)
                  case rel => exact ⟨i + 1, _, c9, by omega, by go_num, rfl, hc9, ⟨gl9, rfl⟩, HS9.out⟩
                  case measure => omega
          · obtain ⟨j', rfl⟩ : ∃ j', j = j' + 1 := ⟨j - 1, by
              apply Classical.byContradiction
              intro h
              exact hex (.inl (by omega))⟩
            have hx : x < s.getD j' 0 := by
              apply Classical.byContradiction
              intro h
              exact hex (.inr ⟨j', rfl, h⟩)
            have hpos2 : posR s x i = posR s x j' := by
              rw [hpos]
              show (if x < s.getD j' 0 then _ else _) = _
              rw [if_pos hx]
            obtain ⟨b', o', he, hc2⟩ := st.cellAt 0 rfl (j := j') (by rw [HTL1.out]; omega)
            cases he
            rw [Nat.zero_add] at hc2
            have hd : decide (x < s.getD j' 0) = true := decide_eq_true hx
            generalize s.getD j' 0 = y at hc2 hd
            have e0 : decide (((j' : Int) + 1) > 0) = true := decide_eq_true (by omega)
            have e8 : (j' : Int) < i := by omega
            have HP2 := Lib.hid hpos2
            have HST := Lib.hid st
            clear st hpos hpos2 hex hx
            go_wp2_with fail
            go_region
            all_goals
              go_wp2_with fail
              go_roundg (gk - 1)
              case rel => exact ⟨j', by omega, by omega, by go_num, HP2.out, HST.out.dr ⟨1, rfl⟩⟩
              case measure => omega
      · obtain rfl : i = R := by omega
        rw [HEND.out] at st
        have HS5 := Lib.hid (st.subm' (List.singleton_sublist.2 List.mem_cons_self))
        clear st
        go_wp2_with fail
        go_ret2
        exact ⟨_, rfl, by rw [HPL.out]; exact HS5.out⟩
end Go.Proofs.Ytoodfgfbppkbmaa
