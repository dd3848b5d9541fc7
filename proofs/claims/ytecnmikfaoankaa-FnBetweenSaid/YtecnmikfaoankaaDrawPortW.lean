/- Contracts: the draws of a grid and ports (l91Port, DrawCrossSelf, DrawCrossBetween). -/
import Derived.Test.YtecnmikfaoankaaDrawSomeW
import Derived.Test.YtecnmikfaoankaaStS
namespace Go.Proofs.Ytecnmikfaoankaa
open Go.RowKit
set_option linter.unusedVariables false
set_option linter.unusedSimpArgs false

def DrawnG (w : World) (T : List ByteArray) (v : Value) (w' : World) : Prop := 1 ≤ T.length ∧ T.length ≤ 4 ∧ (∀ s ∈ T, 1 ≤ s.size ∧ s.size ≤ 5) ∧ St w w' [SS v T]

theorem l91Port_any (ao : Option Addr) (cap : Nat) (zs : List Int) (w : World) (hy : CellsY w ao zs) (hcap : zs.length ≤ cap) (hcm : cap ≤ maxLen) :
    Calls Try.prog 64 #[.slice ao zs.length cap] w fun e w' => ∃ v T, ∃ p : Int, e = .returned (.tuple #[v, .int .i64 p]) ∧ DrawnG w T v w' := by
  go_enter Try.func64, Try.ntmps64
  go_wp2_with fail
  refine (l6Open_any ao cap zs w hy (Nat.le_trans hcap hcm) hcap hcm).mono ?_
  rintro e w1 ⟨rfl, o, b⟩
  have st1 := (St.init w).addSeg o b
  have hz : (zs.take 2000).length ≤ 1000000 := by simp; omega
  have hy2 := hy.take 2000
  generalize zs.take 2000 = ys at hz hy2 o st1
  clear o b hy
  go_wp2_with fail
  refine (l91Some_any w w1 [] w.heap.size ao ys cap _ 4 4 hy2 st1 (by omega) hz (by omega) (by omega) (by omega) (by omega)).mono ?_
  rintro e w2 ⟨v, T, p2, rfl, h1, h2, h3, hp2, st2⟩
  have H3 := Lib.hid h3
  obtain ⟨a, c, rfl⟩ := st2.shapeS 0 rfl
  obtain ⟨bb, off, rfl, hc⟩ := st2.textAt 0 rfl (j := 0) (by omega)
  rw [Nat.add_zero] at hc
  have hs0 : 1 ≤ (rowOf T 0).size ∧ (rowOf T 0).size ≤ 5 := h3 _ (by simp [rowOf, show 0 < T.length by omega])
  generalize rowOf T 0 = s0 at hc hs0
  have ST2 := Lib.hid st2
  clear h3 st1 st2
  go_wp2_with fail
  refine (l2Ports_any _ _ _ (by omega) (by omega) (by omega) (by omega)).mono ?_
  rintro e w3 ⟨rfl, rfl⟩
  go_wp2_with fail
  refine (pick_st w _ [_] [] w.heap.size ao ys cap p2 _ hy2 ST2.out (by omega) hz (by omega) (by omega)).mono ?_
  rintro e w4 ⟨r1, rfl, r10, r11, _, st4⟩
  have r11 := r11 (by omega)
  have ST4 := Lib.hid st4
  clear st4 ST2
  go_wp2_with fail
  refine (pick_st w _ [_] [] w.heap.size ao ys cap _ 24 hy2 ST4.out (by omega) hz (by omega) (by omega)).mono ?_
  rintro e w5 ⟨r2, rfl, r20, r21, _, st5⟩
  have r21 := r21 (by omega)
  have ST5 := Lib.hid st5
  clear st5 ST4
  go_wp2_with fail
  refine (pick_st w _ [_] [] w.heap.size ao ys cap _ 24 hy2 ST5.out (by omega) hz (by omega) (by omega)).mono ?_
  rintro e w6 ⟨r3, rfl, r30, r31, _, st6⟩
  have r31 := r31 (by omega)
  have ST6 := Lib.hid (St.drop1 st6)
  clear st6 ST5
  go_wp2_with fail
  go_ret2
  exact ⟨_, T, _, rfl, h1, h2, H3.out, ST6.out⟩
theorem DrawCrossSelf_any (ao : Option Addr) (cap : Nat) (zs : List Int) (w : World) (hy : CellsY w ao zs) (hcap : zs.length ≤ cap) (hcm : cap ≤ maxLen) :
    Calls Try.prog 29 #[.slice ao zs.length cap] w fun e w' => ∃ v T, ∃ p : Int, e = .returned (.tuple #[v, .int .i64 p]) ∧ DrawnG w T v w' := by
  go_enter Try.func29, Try.ntmps29
  go_wp2_with fail
  refine (l91Port_any ao cap zs w hy hcap hcm).mono ?_
  rintro e w2 ⟨v, T, p, rfl, h⟩
  have H := Lib.hid h
  clear h
  go_wp2_with fail
  go_ret2
  exact ⟨_, T, p, rfl, H.out⟩
theorem DrawCrossBetween_any (ao : Option Addr) (cap : Nat) (zs : List Int) (w : World) (hy : CellsY w ao zs) (hcap : zs.length ≤ cap) (hcm : cap ≤ maxLen) :
    Calls Try.prog 24 #[.slice ao zs.length cap] w fun e w' => ∃ v T, ∃ p q : Int, e = .returned (.tuple #[v, .int .i64 p, .int .i64 q]) ∧ DrawnG w T v w' := by
  go_enter Try.func24, Try.ntmps24
  go_wp2_with fail
  refine (l6Open_any ao cap zs w hy (Nat.le_trans hcap hcm) hcap hcm).mono ?_
  rintro e w1 ⟨rfl, o, b⟩
  have st1 := (St.init w).addSeg o b
  have hz : (zs.take 2000).length ≤ 1000000 := by simp; omega
  have hy2 := hy.take 2000
  generalize zs.take 2000 = ys at hz hy2 o st1
  clear o b hy
  go_wp2_with fail
  refine (l91Some_any w w1 [] w.heap.size ao ys cap _ 4 4 hy2 st1 (by omega) hz (by omega) (by omega) (by omega) (by omega)).mono ?_
  rintro e w2 ⟨v, T, p2, rfl, h1, h2, h3, hp2, st2⟩
  have H3 := Lib.hid h3
  obtain ⟨a, c, rfl⟩ := st2.shapeS 0 rfl
  obtain ⟨bb, off, rfl, hc⟩ := st2.textAt 0 rfl (j := 0) (by omega)
  rw [Nat.add_zero] at hc
  have hs0 : 1 ≤ (rowOf T 0).size ∧ (rowOf T 0).size ≤ 5 := h3 _ (by simp [rowOf, show 0 < T.length by omega])
  generalize rowOf T 0 = s0 at hc hs0
  have ST2 := Lib.hid st2
  clear h3 st1 st2
  go_wp2_with fail
  refine (l2Ports_any _ _ _ (by omega) (by omega) (by omega) (by omega)).mono ?_
  rintro e w3 ⟨rfl, rfl⟩
  go_wp2_with fail
  refine (pick_st w _ [_] [] w.heap.size ao ys cap p2 _ hy2 ST2.out (by omega) hz (by omega) (by omega)).mono ?_
  rintro e w4 ⟨r1, rfl, r10, r11, _, st4⟩
  have r11 := r11 (by omega)
  have ST4 := Lib.hid st4
  clear st4 ST2
  go_wp2_with fail
  refine (pick_st w _ [_] [] w.heap.size ao ys cap _ 24 hy2 ST4.out (by omega) hz (by omega) (by omega)).mono ?_
  rintro e w5 ⟨r2, rfl, r20, r21, _, st5⟩
  have r21 := r21 (by omega)
  have ST5 := Lib.hid st5
  clear st5 ST4
  go_wp2_with fail
  refine (pick_st w _ [_] [] w.heap.size ao ys cap _ _ hy2 ST5.out (by omega) hz (by omega) (by omega)).mono ?_
  rintro e w6 ⟨r3, rfl, r30, r31, _, st6⟩
  have r31 := r31 (by omega)
  have ST6 := Lib.hid st6
  clear st6 ST5
  go_wp2_with fail
  refine (pick_st w _ [_] [] w.heap.size ao ys cap _ 24 hy2 ST6.out (by omega) hz (by omega) (by omega)).mono ?_
  rintro e w7 ⟨r4, rfl, r40, r41, _, st7⟩
  have r41 := r41 (by omega)
  have ST7 := Lib.hid (St.drop1 st7)
  clear st7 ST6
  go_wp2_with fail
  go_ret3
  exact ⟨_, T, _, _, rfl, h1, h2, H3.out, ST7.out⟩
end Go.Proofs.Ytecnmikfaoankaa
