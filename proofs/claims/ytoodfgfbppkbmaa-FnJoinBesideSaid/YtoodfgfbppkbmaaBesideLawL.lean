/- What the law on grids beside each other asks: plain facts, and the draw of two grids. -/
import Derived.Test.YtoodfgfbppkbmaaBesideW
import Derived.Test.YtoodfgfbppkbmaaJJoinW
import Derived.Test.YtoodfgfbppkbmaaDrawJGridW
import Derived.Test.YtoodfgfbppkbmaaTurnPL
namespace Go.Proofs.Ytoodfgfbppkbmaa
open Go.RowKit
set_option linter.unusedVariables false
set_option linter.unusedSimpArgs false

theorem sgn_append (s t : ByteArray) (k : Nat) : (k < s.size → sgn (s ++ t) k = sgn s k) ∧ sgn (s ++ t) (s.size + k) = sgn t k := by
  have hd : (s ++ t).data.toList = s.data.toList ++ t.data.toList := by simp
  have hl : s.data.toList.length = s.size := by simp
  unfold sgn
  rw [hd]
  constructor
  · intro hk
    rw [List.getD_eq_getElem?_getD, List.getElem?_append_left (by omega), ← List.getD_eq_getElem?_getD]
  · rw [List.getD_eq_getElem?_getD, List.getElem?_append_right (by omega), ← List.getD_eq_getElem?_getD, hl, Nat.add_sub_cancel_left]
theorem besS_row {g h : List ByteArray} {i : Nat} (hi : i < g.length) : rowOf (besS g h) i = rowOf g i ++ rowOf h i := by
  unfold besS
  show ((List.range g.length).map fun i => rowOf g i ++ rowOf h i).getD i ByteArray.empty = _
  rw [List.getD_eq_getElem?_getD, List.getElem?_map, List.getElem?_range hi]
  rfl
theorem besS_bes {g h : List ByteArray} (hb : besideB g h = true) : gridB g = true ∧ gridB h = true ∧ gridB (besS g h) = true ∧ Bes (fun b => if b then gr h else gr g) (gr (besS g h)) := by
  unfold besideB at hb
  simp only [Bool.and_eq_true, decide_eq_true_eq] at hb
  obtain ⟨⟨⟨h1, h2⟩, h3⟩, h4⟩ := hb
  have hn1 : 1 ≤ g.length := (gr_ok h1).n1
  refine ⟨h1, h2, h4, ?_⟩
  refine ⟨fun b => ?_, gr_ok h4, fun b => ?_, ?_, fun b i k hi hk => ?_⟩
  · cases b
    · exact gr_ok h1
    · exact gr_ok h2
  · cases b
    · show g.length = (besS g h).length
      rw [besS_len]
    · show h.length = (besS g h).length
      rw [besS_len, h3]
  · show (rowOf (besS g h) 0).size = (gr g).m + (gr h).m
    rw [besS_row (by omega), ByteArray.size_append, gr_row h1 (by omega), gr_row h2 (by omega)]
  · have hi' : i < g.length := by
      have : i < (besS g h).length := hi
      rw [besS_len] at this
      exact this
    have hs : (rowOf g i).size = (gr g).m := gr_row h1 hi'
    cases b
    · show sgn (rowOf (besS g h) i) (0 + k) = sgn (rowOf g i) k
      rw [besS_row hi', Nat.zero_add]
      exact (sgn_append _ _ k).1 (by rw [hs]; exact hk)
    · show sgn (rowOf (besS g h) i) ((gr g).m + k) = sgn (rowOf h i) k
      rw [besS_row hi', ← hs]
      exact (sgn_append _ _ k).2
theorem bes_law {g h : List ByteArray} (hb : besideB g h = true) :
    gridB (besS g h) = true ∧ twoB g.length (rowOf g 0).size (beamsB g) (rowOf h 0).size (beamsB h) = true ∧ beamsB (besS g h) = jpairL g.length (rowOf g 0).size (beamsB g) (rowOf h 0).size (beamsB h) ∧
    rmanyL (besS g h) = rmanyL g + rmanyL h + jroundL g.length (rowOf g 0).size (beamsB g) (rowOf h 0).size (beamsB h) ∧ (0 ≤ rmanyL g ∧ rmanyL g ≤ 100) ∧ (0 ≤ rmanyL h ∧ rmanyL h ≤ 100) ∧ 0 ≤ rmanyL (besS g h) ∧ rmanyL (besS g h) ≤ 100 := by
  obtain ⟨h1, h2, h4, H⟩ := besS_bes hb
  have b1 := bes_beams H
  have b2 := bes_rounds H
  simp only [Bool.false_eq_true, if_false, if_true] at b1 b2
  have o1 := beams_of h1
  have o2 := beams_of h2
  have hn : (gr (besS g h)).n = g.length := besS_len g h
  have hnn : (gr h).n = g.length := by
    have := H.n true
    rw [← hn]
    exact this
  have hm : (gr (besS g h)).m = (gr g).m + (gr h).m := H.m
  have hm5 := (gr_ok h4).m5
  rw [hn] at b1 b2
  have ht : twoB g.length (rowOf g 0).size (beamsB g) (rowOf h 0).size (beamsB h) = true := by
    unfold twoB
    simp only [Bool.and_eq_true, decide_eq_true_eq]
    refine ⟨⟨o1, ?_⟩, ?_⟩
    · rw [hnn] at o2; exact o2
    · show ((gr g).m : Int) + ((gr h).m : Int) ≤ 5
      omega
  have e1 := beams_eq h1
  have e2 := beams_eq h2
  have r1 := Gr.rmany_le (gr_ok h1)
  have r2 := Gr.rmany_le (gr_ok h2)
  have r4 := Gr.rmany_le (gr_ok h4)
  have q1 : rmanyL g = ((gr g).rmany : Nat) := by unfold rmanyL; rw [if_pos h1]
  have q2 : rmanyL h = ((gr h).rmany : Nat) := by unfold rmanyL; rw [if_pos h2]
  have q4 : rmanyL (besS g h) = ((gr (besS g h)).rmany : Nat) := by unfold rmanyL; rw [if_pos h4]
  have j1 : jpairL g.length (rowOf g 0).size (beamsB g) (rowOf h 0).size (beamsB h) = joinL g.length (gr g).m (gr h).m (beamsB g) (beamsB h) := by
    unfold jpairL
    rw [if_pos ht]
    rfl
  have j2 : jroundL g.length (rowOf g 0).size (beamsB g) (rowOf h 0).size (beamsB h) = (joinN g.length (gr g).m (gr h).m (beamsB g) (beamsB h) : Nat) := by
    unfold jroundL
    rw [if_pos ht]
    rfl
  rw [← e1, ← e2] at b1 b2
  refine ⟨h4, ht, ?_, ?_, ⟨by rw [q1]; omega, by rw [q1]; omega⟩, ⟨by rw [q2]; omega, by rw [q2]; omega⟩, by rw [q4]; omega, by rw [q4]; omega⟩
  · rw [j1, beams_eq h4, b1]
  · rw [j2, q1, q2, q4, b2]
    omega

set_option maxHeartbeats 4000000 in
theorem DrawGridBeside_any (ao : Option Addr) (cap : Nat) (zs : List Int) (w : World) (hy : CellsY w ao zs) (hcap : zs.length ≤ cap) (hcm : cap ≤ maxLen) :
    Calls Try.prog 31 #[.slice ao zs.length cap] w fun e w' => ∃ v1 g v2 h, e = .returned (.tuple #[v1, v2]) ∧ gridB g = true ∧ gridB h = true ∧ St w w' [SS v2 h, SS v1 g] := by
  go_enter Try.func31, Try.ntmps31
  go_wp2_with fail
  refine (l6Open_any ao cap zs w hy (Nat.le_trans hcap hcm) hcap hcm).mono ?_
  rintro e w1 ⟨rfl, o, b⟩
  have st1 := (St.init w).addSeg o b
  have hz : (zs.take 2000).length ≤ 1000000 := by simp; omega
  have hy2 := hy.take 2000
  generalize zs.take 2000 = ys at hz hy2 o st1
  clear o b hy
  go_wp2_with fail
  refine (pick_st w w1 [] [] w.heap.size ao ys cap _ 4 hy2 st1 (by omega) hz (by omega) (by omega)).mono ?_
  rintro e w2 ⟨a, rfl, a0, a1, _, st2⟩
  have a1 := a1 (by omega)
  obtain ⟨A, rfl⟩ := Int.eq_ofNat_of_zero_le a0
  clear st1 a0
  go_wp2_with fail
  refine (pick_st w w2 [] [] w.heap.size ao ys cap _ 3 hy2 st2 (by omega) hz (by omega) (by omega)).mono ?_
  rintro e w3 ⟨b, rfl, b0, b1, _, st3⟩
  have b1 := b1 (by omega)
  obtain ⟨B, rfl⟩ := Int.eq_ofNat_of_zero_le b0
  clear st2 b0
  go_wp2_with fail
  rw [show (1 : Int) + (A : Int) = ((1 + A : Nat) : Int) by omega, show (1 : Int) + (B : Int) = ((1 + B : Nat) : Int) by omega]
  refine (l91OfG_any w w3 [] w.heap.size ao ys cap _ (1 + A) (1 + B) hy2 st3 (by omega) hz (by omega) (by omega)).mono ?_
  rintro e w4 ⟨vT, T, pT, rfl, hT1, hT2, hpT, st4⟩
  clear st3
  have hgT := (gridB_rows (n := 1 + A) (m := 1 + B) (by omega) (by omega) (by omega) (by omega) hT1 hT2).1
  have HGT := Lib.hid hgT
  clear hT1 hT2 hgT
  replace st4 := st4.swap
  go_wp2_with fail
  refine (pick_st w w4 [] [SS vT T] w.heap.size ao ys cap _ 24 hy2 st4 (by omega) hz (by omega) (by omega)).mono ?_
  rintro e w5 ⟨d, rfl, d0, d1, _, st5⟩
  have d1 := d1 (by omega)
  obtain ⟨D, rfl⟩ := Int.eq_ofNat_of_zero_le d0
  clear st4 d0
  go_wp2_with fail
  refine (pick_st w w5 [] [SS vT T] w.heap.size ao ys cap _ 3 hy2 st5 (by omega) hz (by omega) (by omega)).mono ?_
  rintro e w6 ⟨c, rfl, c0, c1, _, st6⟩
  have c1 := c1 (by omega)
  obtain ⟨C, rfl⟩ := Int.eq_ofNat_of_zero_le c0
  clear st5 c0
  obtain ⟨K, hK⟩ : ∃ K : Nat, (K : Int) = 1 + A + (D : Int) / 23 := ⟨(1 + A + (D : Int) / 23).toNat, by omega⟩
  have hK1 : 1 ≤ K := by omega
  have hK5 : K ≤ 5 := by omega
  have HK := Lib.hid hK
  clear hK
  go_wp2_with fail
  rw [← HK.out, show (1 : Int) + (C : Int) = ((1 + C : Nat) : Int) by omega]
  refine (l91OfG_any w w6 [SS vT T] w.heap.size ao ys cap _ K (1 + C) hy2 st6 (by omega) hz (by omega) (by omega)).mono ?_
  rintro e w7 ⟨vU, U, pU, rfl, hU1, hU2, hpU, st7⟩
  clear st6
  have hgU := (gridB_rows (n := K) (m := 1 + C) (by omega) (by omega) (by omega) (by omega) hU1 hU2).1
  have HGU := Lib.hid hgU
  have HST := Lib.hid (st7.sub (b := [SS vU U, SS vT T]) (by simp))
  clear st7 hU1 hU2 hgU
  go_wp2_with fail
  go_ret2
  exact ⟨vT, T, vU, U, rfl, HGT.out, HGU.out, HST.out⟩
end Go.Proofs.Ytoodfgfbppkbmaa
