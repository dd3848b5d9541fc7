/- Contracts: two grids beside each other (l1Beside, GridBeside), and the draw of two. -/
import Derived.Test.YtoodfgfbppkbmaaDrawOfW
import Derived.Test.YtoodfgfbppkbmaaBeside2L
import Derived.Test.YtoodfgfbppkbmaaAfterW
import Derived.Deep.LoopGhost
namespace Go.Proofs.Ytoodfgfbppkbmaa
open Go.RowKit
set_option linter.unusedVariables false
set_option linter.unusedSimpArgs false

def besS (g h : List ByteArray) : List ByteArray := (List.range g.length).map fun i => rowOf g i ++ rowOf h i
def besTo (g h : List ByteArray) (i : Nat) : List ByteArray := (List.range i).map fun i => rowOf g i ++ rowOf h i
theorem besTo_succ (g h : List ByteArray) (i : Nat) : besTo g h i ++ [rowOf g i ++ rowOf h i] = besTo g h (i + 1) := by simp [besTo, List.range_succ]
theorem besTo_length (g h : List ByteArray) (i : Nat) : (besTo g h i).length = i := by simp [besTo]
def besideB (g h : List ByteArray) : Bool := gridB g && gridB h && decide (g.length = h.length) && gridB (besS g h)
def besideL (g h : List ByteArray) : List ByteArray := if besideB g h = true then besS g h else []
theorem st_ss_nilB (w : World) : St w (w.alloc (.cells #[] 9)) [SS (.slice (some ⟨w.heap.size, 0, none⟩) 0 0) []] :=
  (St.init w).addSeg (World.ownsRow_made w #[] 0 (Nat.le_refl _) (Nat.zero_le _) rfl) ((Below.refl _ _).alloc (Nat.le_refl _) (.cells #[] 9))
theorem besS_sizes {g h : List ByteArray} (hsz : ∀ s ∈ g, s.size ≤ 6) (hsz2 : ∀ s ∈ h, s.size ≤ 6) : ∀ s ∈ besS g h, s.size ≤ maxLen := by
  intro s hs
  obtain ⟨i, hi, rfl⟩ := List.mem_map.1 hs
  have hr : ∀ (T : List ByteArray), (∀ s ∈ T, s.size ≤ 6) → (rowOf T i).size ≤ 6 := fun T hT => by
    unfold rowOf
    rw [List.getD_eq_getElem?_getD]
    by_cases h : i < T.length
    · rw [List.getElem?_eq_getElem h]; exact hT _ (List.getElem_mem h)
    · rw [List.getElem?_eq_none (by omega)]; show (0 : Nat) ≤ 6; omega
  have h1 := hr g hsz
  have h2 := hr h hsz2
  rw [ByteArray.size_append]
  unfold maxLen
  omega

set_option maxHeartbeats 2000000 in
theorem l1Beside_any (a1 : Option Addr) (c1 : Nat) (g : List ByteArray) (a2 : Option Addr) (c2 : Nat) (h : List ByteArray) (w : World) (hx : CellsS w a1 g) (hy : CellsS w a2 h) (hl : g.length = h.length) (h5 : g.length ≤ 5) (hs : ∀ i, (rowOf g i).size + (rowOf h i).size ≤ 100) :
    Calls Try.prog 54 #[.slice a1 g.length c1, .slice a2 h.length c2] w fun e w' => ∃ v, e = .returned v ∧ St w w' [SS v (besS g h)] := by
  have HX := Lib.hid hx
  have HY := Lib.hid hy
  have HE : Hid (besTo g h g.length = besS g h) := rfl
  have STA := Lib.hid (st_ss_nilB w)
  generalize hn : g.length = n at *
  generalize hn2 : h.length = n2 at *
  obtain rfl : n = n2 := hl
  clear hx hy
  go_enter Try.func54, Try.ntmps54
  go_wp2_with fail
  go_loopg [5, 6] n (fun kk vo vi wr => ∃ (i : Nat) (a : Option Addr) (c : Nat), kk + i = n ∧ vi = .int .i64 i ∧ vo = .slice a i c ∧ St w wr [SS (.slice a i c) (besTo g h i)])
  case atStart => exact ⟨0, _, _, by omega, rfl, rfl, STA.out⟩
  case round =>
    clear STA
    obtain ⟨i, a, c, hi, rfl, rfl, st⟩ := hrel
    by_cases hlt : i < n
    · obtain ⟨b1, f1, rfl, hc1⟩ := st.oldS HX.out i (by omega)
      obtain ⟨b2, f2, rfl, hc2⟩ := st.oldS HY.out i (by omega)
      have HCS := Lib.hid (besTo_succ g h i)
      have HCL := Lib.hid (besTo_length g h i)
      have HCL2 := Lib.hid (besTo_length g h (i + 1))
      have hlt9 : ¬ (9223372036854775807 < (rowOf g i).size + (rowOf h i).size) := by have := hs i; omega
      clear hs
      generalize rowOf g i = s1 at *
      generalize rowOf h i = s2 at *
      have HSA := Lib.hid ((st.step ((Below.refl _ _).alloc (Nat.le_refl _) (.cells #[.string (s1 ++ s2)] 9))).dr ⟨1, rfl⟩)
      clear st
      go_wp2_with fail
      go_region_law (first
        | (refine step_appendSt elemS rfl (.tmp 14) (.tmp 24) rfl w.heap.size (SS (.slice a i c) (besTo g h i)) rfl rfl rfl (HSA.out.own _ List.mem_cons_self) _ ⟨wr.heap.size, 0, none⟩ 1 1 [.string (s1 ++ s2)] rfl rfl rfl ?_ ?_ ?_ ?_ ?_
           · intro j u hu
             have := cell_one_new wr (.string (s1 ++ s2)) 9 j u hu
             simpa using this
           · intro u hu
             rw [List.mem_singleton.1 hu]
             rfl
           · simp only [SS]; rw [HCL.out]; unfold maxLen; omega
           · simp only [SS]; rw [HCL.out]; omega
           intro v' w4 hbec
           have s5 : St w w4 [SS v' (besTo g h i ++ [s1 ++ s2])] := (by rw [← SS_append]; exact HSA.out.became0 hbec)
           rw [HCS.out] at s5
           obtain ⟨a5, c5, hv⟩ := s5.shapeS 0 rfl
           rw [HCL2.out] at hv
           subst hv
           have HS5 := Lib.hid s5
           clear hbec s5))
      all_goals
        go_wp2
        go_roundg (gk - 1)
        case rel => exact ⟨i + 1, a5, c5, by omega, by go_num, rfl, HS5.out⟩
        case measure => omega
    · have hin : i = n := by omega
      subst i
      rw [HE.out] at st
      have HST := Lib.hid st
      clear st
      go_wp2
      go_ret
      exact ⟨_, rfl, HST.out⟩

theorem l1NoneB_any (w : World) : Calls Try.prog 52 #[] w fun e w' => ∃ v, e = .returned (.tuple #[v, .bool false]) ∧ St w w' [SS v []] := by
  have ST0 := Lib.hid (st_ss_nilB w)
  go_enter Try.func52, Try.ntmps52
  go_wp2
  go_ret2
  exact ⟨_, rfl, ST0.out⟩
theorem l1Done_yes (ao : Option Addr) (cap : Nat) (ss : List ByteArray) (w : World) (hx : CellsS w ao ss) (hm : ss.length ≤ maxLen) (hsz : ∀ s ∈ ss, s.size ≤ maxLen) (hg : gridB ss = true) :
    Calls Try.prog 53 #[.slice ao ss.length cap] w fun e w' => e = .returned (.tuple #[.slice ao ss.length cap, .bool true]) ∧ Dr w w' := by
  have HGI := Lib.hid (sGridIn_any ao cap ss w hx hm hsz)
  rw [hg] at HGI
  clear hg hsz hx
  go_enter Try.func53, Try.ntmps53
  go_wp2_with (go_at_call 37; refine HGI.out.mono ?_; rintro e w2 ⟨rfl, d⟩; have HD := Lib.hid d; clear d)
  go_ret2
  exact ⟨rfl, HD.out⟩
theorem l1Done_no (ao : Option Addr) (cap : Nat) (ss : List ByteArray) (w : World) (hx : CellsS w ao ss) (hm : ss.length ≤ maxLen) (hsz : ∀ s ∈ ss, s.size ≤ maxLen) (hg : gridB ss = false) :
    Calls Try.prog 53 #[.slice ao ss.length cap] w fun e w' => ∃ v, e = .returned (.tuple #[v, .bool false]) ∧ St w w' [SS v []] := by
  have HGI := Lib.hid (sGridIn_any ao cap ss w hx hm hsz)
  rw [hg] at HGI
  clear hg hsz hx
  go_enter Try.func53, Try.ntmps53
  go_wp2_with (first | (go_at_call 37; refine HGI.out.mono ?_; rintro e w2 ⟨rfl, d⟩; have HD := Lib.hid ((St.init w).dr d); clear d) | (go_at_call 52; refine (l1NoneB_any _).mono ?_; rintro e w3 ⟨v, rfl, sta⟩; have HST := Lib.hid (HD.out.join sta); clear sta))
  go_ret2
  exact ⟨_, rfl, HST.out⟩
theorem grid_sizes {T : List ByteArray} (hg : gridB T = true) : (∀ s ∈ T, s.size ≤ 6) ∧ ∀ i, (rowOf T i).size ≤ 6 := by
  have hm : (gr T).m ≤ 5 := (gr_ok hg).m5
  have hr : ∀ i, (rowOf T i).size ≤ 6 := fun i => by
    by_cases h : i < T.length
    · rw [gr_row hg h]; omega
    · unfold rowOf
      rw [List.getD_eq_getElem?_getD, List.getElem?_eq_none (by omega)]
      show (0 : Nat) ≤ 6
      omega
  refine ⟨fun s hs => ?_, hr⟩
  obtain ⟨i, hi, rfl⟩ := List.getElem_of_mem hs
  have := hr i
  unfold rowOf at this
  rw [List.getD_eq_getElem?_getD, List.getElem?_eq_getElem hi] at this
  exact this
theorem besS_len (g h : List ByteArray) : (besS g h).length = g.length := by simp [besS]

set_option maxHeartbeats 2000000 in
theorem sGridBeside_any (a1 : Option Addr) (c1 : Nat) (g : List ByteArray) (a2 : Option Addr) (c2 : Nat) (h : List ByteArray) (w : World) (hx : CellsS w a1 g) (hy : CellsS w a2 h) (hg : gridB g = true) (hh : gridB h = true) :
    Calls Try.prog 33 #[.slice a1 g.length c1, .slice a2 h.length c2] w fun e w' => ∃ v, e = .returned (.tuple #[v, .bool (besideB g h)]) ∧ St w w' [SS v (besideL g h)] := by
  have g5 : g.length ≤ 5 := (gr_ok hg).n5
  have h5 : h.length ≤ 5 := (gr_ok hh).n5
  obtain ⟨sg, rg⟩ := grid_sizes hg
  obtain ⟨sh, rh⟩ := grid_sizes hh
  have HG := Lib.hid fun W (b : Below w.heap.size w W) => sGridIn_any a1 c1 g W (hx.below b (Nat.le_refl _)) (by unfold maxLen; omega) (fun s hs => by have := sg s hs; unfold maxLen; omega)
  have HH := Lib.hid fun W (b : Below w.heap.size w W) => sGridIn_any a2 c2 h W (hy.below b (Nat.le_refl _)) (by unfold maxLen; omega) (fun s hs => by have := sh s hs; unfold maxLen; omega)
  have HB := Lib.hid fun W (b : Below w.heap.size w W) hl => l1Beside_any a1 c1 g a2 c2 h W (hx.below b (Nat.le_refl _)) (hy.below b (Nat.le_refl _)) hl g5 (fun i => by have h1 := rg i; have h2 := rh i; omega)
  have hbs := besS_sizes sg sh
  have hbl := besS_len g h
  rw [hg] at HG
  rw [hh] at HH
  by_cases hl : g.length = h.length
  · have HB2 := Lib.hid fun W b => HB.out W b hl
    have HDY := Lib.hid fun hq ao cap W hx => l1Done_yes ao cap (besS g h) W hx (by unfold maxLen; omega) hbs hq
    have HDN := Lib.hid fun hq ao cap W hx => l1Done_no ao cap (besS g h) W hx (by unfold maxLen; omega) hbs hq
    have hne : ((g.length : Int) != (h.length : Int)) = false := by rw [hl]; exact bne_self_eq_false _
    cases hq : gridB (besS g h)
    · have HL := Lib.hid (show besideB g h = false by simp [besideB, hq])
      have HLL := Lib.hid (show besideL g h = [] by simp [besideL, HL.out])
      have HDN2 := Lib.hid (HDN.out hq)
      clear hx hy hg hh sg sh rg rh hbs hbl hl hq HDY HDN HB
      go_enter Try.func33, Try.ntmps33
      go_wp2_with fail
      refine (HG.out w (Below.refl _ _)).mono ?_
      rintro e w1 ⟨rfl, d⟩
      have st1 := (St.init w).dr d
      clear d
      go_wp2_with fail
      refine (HH.out w1 st1.below).mono ?_
      rintro e w2 ⟨rfl, d⟩
      have st2 := st1.dr d
      clear d st1
      go_wp2_with fail
      refine (HB2.out w2 st2.below).mono ?_
      rintro e w3 ⟨v3, rfl, sta⟩
      have st3 := st2.join sta
      obtain ⟨a3, c3, rfl⟩ := st3.shapeS 0 rfl
      clear sta st2
      go_wp2_with fail
      refine (HDN2.out a3 c3 w3 (st3.texts 0 rfl)).mono ?_
      rintro e w4 ⟨v4, rfl, sta⟩
      have st4 := (st3.join sta).sub (b := [SS v4 []]) (by simp)
      have HST := Lib.hid st4
      clear sta st3 st4
      go_wp2_with fail
      go_ret2
      exact ⟨_, by rw [HL.out] <;> rfl, by rw [HLL.out]; exact HST.out⟩
    · have HL := Lib.hid (show besideB g h = true by simp [besideB, hq, hg, hh, hl])
      have HLL := Lib.hid (show besideL g h = besS g h by simp [besideL, HL.out])
      have HDY2 := Lib.hid (HDY.out hq)
      clear hx hy hg hh sg sh rg rh hbs hbl hl hq HDY HDN HB
      go_enter Try.func33, Try.ntmps33
      go_wp2_with fail
      refine (HG.out w (Below.refl _ _)).mono ?_
      rintro e w1 ⟨rfl, d⟩
      have st1 := (St.init w).dr d
      clear d
      go_wp2_with fail
      refine (HH.out w1 st1.below).mono ?_
      rintro e w2 ⟨rfl, d⟩
      have st2 := st1.dr d
      clear d st1
      go_wp2_with fail
      refine (HB2.out w2 st2.below).mono ?_
      rintro e w3 ⟨v3, rfl, sta⟩
      have st3 := st2.join sta
      obtain ⟨a3, c3, rfl⟩ := st3.shapeS 0 rfl
      clear sta st2
      go_wp2_with fail
      refine (HDY2.out a3 c3 w3 (st3.texts 0 rfl)).mono ?_
      rintro e w4 ⟨rfl, d⟩
      have HST := Lib.hid (st3.dr d)
      clear d st3
      go_wp2_with fail
      go_ret2
      exact ⟨_, by rw [HL.out] <;> rfl, by rw [HLL.out]; exact HST.out⟩
  · have hne : ((g.length : Int) != (h.length : Int)) = true := by rw [bne_iff_ne]; omega
    have HL := Lib.hid (show besideB g h = false by simp [besideB, hl])
    have HLL := Lib.hid (show besideL g h = [] by simp [besideL, HL.out])
    clear hx hy hg hh sg sh rg rh hbs hbl hl HB
    go_enter Try.func33, Try.ntmps33
    go_wp2_with fail
    refine (HG.out w (Below.refl _ _)).mono ?_
    rintro e w1 ⟨rfl, d⟩
    have st1 := (St.init w).dr d
    clear d
    go_wp2_with fail
    refine (HH.out w1 st1.below).mono ?_
    rintro e w2 ⟨rfl, d⟩
    have st2 := st1.dr d
    clear d st1
    go_wp2_with fail
    refine (l1NoneB_any _).mono ?_
    rintro e w3 ⟨v3, rfl, sta⟩
    have HST := Lib.hid (st2.join sta)
    clear sta st2
    go_wp2_with fail
    go_ret2
    exact ⟨_, by rw [HL.out] <;> rfl, by rw [HLL.out]; exact HST.out⟩

set_option maxRecDepth 100000 in
set_option maxHeartbeats 4000000 in
theorem iGridBeside_any (a1 : Option Addr) (c1 : Nat) (g : List ByteArray) (a2 : Option Addr) (c2 : Nat) (h : List ByteArray) (w : World) (hx : CellsS w a1 g) (hy : CellsS w a2 h) (hg : gridB g = true) (hh : gridB h = true) :
    Calls Try.prog 32 #[.slice a1 g.length c1, .slice a2 h.length c2] w fun e w' => ∃ v, e = .returned (.tuple #[v, .bool (besideB g h)]) ∧ St w w' [SS v (besideL g h)] := by
  have g5 : g.length ≤ 5 := (gr_ok hg).n5
  have h5 : h.length ≤ 5 := (gr_ok hh).n5
  obtain ⟨sg, rg⟩ := grid_sizes hg
  obtain ⟨sh, rh⟩ := grid_sizes hh
  have HG := Lib.hid (iGridIn_any a1 c1 g w hx (by unfold maxLen; omega) (fun s hs => by have := sg s hs; unfold maxLen; omega))
  have HH := Lib.hid (iGridIn_any a2 c2 h w hy (by unfold maxLen; omega) (fun s hs => by have := sh s hs; unfold maxLen; omega))
  have hbs := besS_sizes sg sh
  have hbl := besS_len g h
  rw [hg] at HG
  rw [hh] at HH
  have STA := Lib.hid (st_ss_nilB w)
  by_cases hl : g.length = h.length
  · have HOG := Lib.hid fun ao cap W hx => iGridIn_any ao cap (besS g h) W hx (by unfold maxLen; omega) hbs
    have hne : ((g.length : Int) != (h.length : Int)) = false := by rw [hl]; exact bne_self_eq_false _
    have HBB := Lib.hid (show besideB g h = gridB (besS g h) by simp [besideB, hg, hh, hl])
    have HX := Lib.hid hx
    have HY := Lib.hid hy
    have HE : Hid (besTo g h g.length = besS g h) := rfl
    have HS9 : Hid (∀ i, ¬ (9223372036854775807 < (rowOf g i).size + (rowOf h i).size)) := fun i => by have h1 := rg i; have h2 := rh i; omega
    have HBL := Lib.hid hbl
    clear hx hy hg hh sg sh rg rh hbs hbl
    generalize hn : g.length = n at *
    generalize hn2 : h.length = n2 at *
    obtain rfl : n = n2 := hl
    go_enter Try.func32, Try.ntmps32
    go_wp2_with (go_at_call 39; first | (refine HG.out.mono ?_; rintro e w2 ⟨rfl, rfl⟩; clear HG) | (refine HH.out.mono ?_; rintro e w2 ⟨rfl, rfl⟩; clear HH))
    go_loopg [6, 27] n (fun kk vo vi wr => ∃ (i : Nat) (a : Option Addr) (c : Nat), kk + i = n ∧ vi = .int .i64 i ∧ vo = .slice a i c ∧ St w wr [SS (.slice a i c) (besTo g h i)])
    case atStart => exact ⟨0, _, _, by omega, rfl, rfl, STA.out⟩
    case round =>
      clear STA
      obtain ⟨i, a, c, hi, rfl, rfl, st⟩ := hrel
      by_cases hlt : i < n
      · obtain ⟨b1, f1, rfl, hc1⟩ := st.oldS HX.out i (by omega)
        obtain ⟨b2, f2, rfl, hc2⟩ := st.oldS HY.out i (by omega)
        have HCS := Lib.hid (besTo_succ g h i)
        have HCL := Lib.hid (besTo_length g h i)
        have HCL2 := Lib.hid (besTo_length g h (i + 1))
        have hlt9 := HS9.out i
        generalize rowOf g i = s1 at *
        generalize rowOf h i = s2 at *
        have HSA := Lib.hid ((st.step ((Below.refl _ _).alloc (Nat.le_refl _) (.cells #[.string (s1 ++ s2)] 9))).dr ⟨1, rfl⟩)
        clear st
        go_wp2_with fail
        go_region_law (first
          | (refine step_appendSt elemS rfl (.tmp 30) (.tmp 40) rfl w.heap.size (SS (.slice a i c) (besTo g h i)) rfl rfl rfl (HSA.out.own _ List.mem_cons_self) _ ⟨wr.heap.size, 0, none⟩ 1 1 [.string (s1 ++ s2)] rfl rfl rfl ?_ ?_ ?_ ?_ ?_
             · intro j u hu
               have := cell_one_new wr (.string (s1 ++ s2)) 9 j u hu
               simpa using this
             · intro u hu
               rw [List.mem_singleton.1 hu]
               rfl
             · simp only [SS]; rw [HCL.out]; unfold maxLen; omega
             · simp only [SS]; rw [HCL.out]; omega
             intro v' w4 hbec
             have s5 : St w w4 [SS v' (besTo g h i ++ [s1 ++ s2])] := (by rw [← SS_append]; exact HSA.out.became0 hbec)
             rw [HCS.out] at s5
             obtain ⟨a5, c5, hv⟩ := s5.shapeS 0 rfl
             rw [HCL2.out] at hv
             subst hv
             have HS5 := Lib.hid s5
             clear hbec s5))
        all_goals
          go_wp2
          go_roundg (gk - 1)
          case rel => exact ⟨i + 1, a5, c5, by omega, by go_num, rfl, HS5.out⟩
          case measure => omega
      · have hin : i = n := by omega
        subst i
        rw [HE.out] at st
        have HOG2 := Lib.hid (HOG.out a c wr)
        have HOG3 := Lib.hid (HOG2.out (st.texts 0 rfl))
        rw [HBL.out] at HOG3
        have HST := Lib.hid st
        clear st HOG HOG2
        cases hq : gridB (besS g h)
        · have HL := Lib.hid (show besideB g h = false by rw [HBB.out, hq])
          have HLL := Lib.hid (show besideL g h = [] by simp [besideL, HL.out])
          rw [hq] at HOG3
          clear hq
          have HN := Lib.hid ((HST.out.join (st_ss_nilB wr)).sub (b := [SS (.slice (some ⟨wr.heap.size, 0, none⟩) 0 0) []]) (by simp))
          go_wp2_with (go_at_call 39; refine HOG3.out.mono ?_; rintro e w2 ⟨rfl, rfl⟩)
          go_ret2
          exact ⟨_, by rw [HL.out] <;> rfl, by rw [HLL.out]; exact HN.out⟩
        · have HL := Lib.hid (show besideB g h = true by rw [HBB.out, hq])
          have HLL := Lib.hid (show besideL g h = besS g h by simp [besideL, HL.out])
          rw [hq] at HOG3
          clear hq
          go_wp2_with (go_at_call 39; refine HOG3.out.mono ?_; rintro e w2 ⟨rfl, rfl⟩)
          go_ret2
          exact ⟨_, by rw [HL.out] <;> rfl, by rw [HLL.out]; exact HST.out⟩
  · have hne : ((g.length : Int) != (h.length : Int)) = true := by rw [bne_iff_ne]; omega
    have HL := Lib.hid (show besideB g h = false by simp [besideB, hl])
    have HLL := Lib.hid (show besideL g h = [] by simp [besideL, HL.out])
    clear hx hy hg hh sg sh rg rh hbs hbl hl
    go_enter Try.func32, Try.ntmps32
    go_wp2_with (go_at_call 39; first | (refine HG.out.mono ?_; rintro e w2 ⟨rfl, rfl⟩; clear HG) | (refine HH.out.mono ?_; rintro e w2 ⟨rfl, rfl⟩; clear HH))
    go_ret2
    exact ⟨_, by rw [HL.out] <;> rfl, by rw [HLL.out]; exact STA.out⟩
end Go.Proofs.Ytoodfgfbppkbmaa
