/- Contracts: the draws of pairings that are often of a grid (l91Chords, DrawCrossIn, DrawCrossChords). -/
import Derived.Test.YtgbfhpjdhacfmaaDrawSomeW
import Derived.Test.YtgbfhpjdhacfmaaDrawPairsW
import Derived.Test.YtgbfhpjdhacfmaaPairsBW
import Derived.Test.YtgbfhpjdhacfmaaEndL
import Derived.Test.YtgbfhpjdhacfmaaStS
namespace Go.Proofs.Ytgbfhpjdhacfmaa
open Go.RowKit
set_option linter.unusedVariables false
set_option linter.unusedSimpArgs false

theorem l91Chords_any (ao : Option Addr) (cap : Nat) (zs : List Int) (w : World) (hy : CellsY w ao zs) (hcap : zs.length ≤ cap) (hcm : cap ≤ maxLen) :
    Calls Try.prog 45 #[.slice ao zs.length cap] w fun e w' => ∃ v xs, e = .returned v ∧ xs.length ≤ 20 ∧ St w w' [SI v xs] := by
  go_enter Try.func45, Try.ntmps45
  go_wp2_with fail
  refine (l6Open_any ao cap zs w hy (Nat.le_trans hcap hcm) hcap hcm).mono ?_
  rintro e w1 ⟨rfl, o, b⟩
  have st1 := (St.init w).addSeg o b
  have hz : (zs.take 2000).length ≤ 1000000 := by simp; omega
  have hy2 := hy.take 2000
  generalize zs.take 2000 = ys at hz hy2 o st1
  clear o b hy
  go_wp2_with fail
  refine (pick_st w _ [] [] w.heap.size ao ys cap _ 2 hy2 st1 (by omega) hz (by omega) (by omega)).mono ?_
  rintro e w2 ⟨r1, rfl, r10, r11, _, st2⟩
  have r11 := r11 (by omega)
  have tail : ∀ (w3 : World) (p : Nat), p ≤ 500000 → St w w3 [SR w.heap.size ao ys.length cap p] → ∀ P : Nat, 1 ≤ P → P ≤ 16 →
      Calls Try.prog 63 #[.pointer (some ⟨w.heap.size, 0, none⟩), .int .i64 P] w3 fun e w' => ∃ v xs, e = .returned v ∧ xs.length ≤ 20 ∧ St w w' [SI v xs] := by
    intro w3 p hp st P hP1 hP
    refine (l91Pairs_any w w3 [] w.heap.size ao ys cap p P hy2 st (by omega) hz (by omega) hP1).mono ?_
    rintro e w4 ⟨v, xs, p', rfl, hl, _, st4⟩
    exact ⟨v, xs, rfl, by omega, st4.drop1⟩
  have TAIL := Lib.hid tail
  clear st1 tail
  have hr : r1 = 0 ∨ r1 = 1 := by omega
  clear r10 r11
  rcases hr with rfl | rfl
  · go_wp2_with fail
    refine (l91Some_any w w2 [] w.heap.size ao ys cap _ 4 4 hy2 st2 (by omega) hz (by omega) (by omega) (by omega) (by omega)).mono ?_
    rintro e w3 ⟨v, T, p2, rfl, h1, h2, h3, hp2, st3⟩
    obtain ⟨a3, c3, rfl⟩ := st3.shapeS 0 rfl
    have szm := sizes_max h3
    have lm : T.length ≤ maxLen := by unfold maxLen; omega
    clear h3 st2
    cases hg : gridB T
    · have HG := Lib.hid hg
      clear hg
      go_wp2_with fail
      have R := sBeamPairs_any a3 c3 T _ (st3.texts 0 rfl) lm szm
      rw [HG.out] at R
      refine R.mono ?_
      rintro e w4 ⟨v4, rfl, s4⟩
      clear R
      have st4 := ((st3.join s4).drop0).drop0
      have ST4 := Lib.hid st4
      clear s4 st3 st4
      go_wp2_with fail
      refine (pick_st w _ [] [] w.heap.size ao ys cap p2 7 hy2 ST4.out (by omega) hz (by omega) (by omega)).mono ?_
      rintro e w5 ⟨r2, rfl, r20, r21, _, st5⟩
      have r21 := r21 (by omega)
      have ST5 := Lib.hid st5
      clear st5 ST4
      go_wp2_with fail
      refine (pick_st w _ [] [] w.heap.size ao ys cap _ 24 hy2 ST5.out (by omega) hz (by omega) (by omega)).mono ?_
      rintro e w6 ⟨r3, rfl, r30, r31, _, st6⟩
      have r31 := r31 (by omega)
      have ST6 := Lib.hid st6
      clear st6 ST5
      go_wp2_with fail
      obtain ⟨P, hP⟩ : ∃ P : Nat, (P : Int) = 4 + 2 * r2 - r3 / 23 := ⟨(4 + 2 * r2 - r3 / 23).toNat, by omega⟩
      rw [← hP]
      have hP16 : 1 ≤ P ∧ P ≤ 16 := by omega
      clear hP
      refine (TAIL.out _ _ (by omega) ST6.out P hP16.1 hP16.2).mono ?_
      rintro e w7 ⟨v7, xs, rfl, hl, st7⟩
      have ST7 := Lib.hid st7
      clear st7
      go_wp2_with fail
      go_ret
      exact ⟨v7, xs, rfl, hl, ST7.out⟩
    · have HG := Lib.hid hg
      have hb : (beamsB T).length ≤ 20 := by
        have hok := gr_ok hg
        have := Gr.ports_bd hok
        simp only [beamsB, hg, if_true, Gr.endsTo_length]
        omega
      clear hg
      go_wp2_with fail
      have R := sBeamPairs_any a3 c3 T _ (st3.texts 0 rfl) lm szm
      rw [HG.out] at R
      refine R.mono ?_
      rintro e w4 ⟨v4, rfl, s4⟩
      clear R
      have st4 := ((st3.join s4).drop1).drop1
      have ST4 := Lib.hid st4
      clear s4 st3 st4
      go_wp2_with fail
      go_ret
      exact ⟨v4, _, rfl, hb, ST4.out⟩
  · have ST4 := Lib.hid st2
    clear st2
    go_wp2_with fail
    refine (pick_st w _ [] [] w.heap.size ao ys cap _ 7 hy2 ST4.out (by omega) hz (by omega) (by omega)).mono ?_
    rintro e w5 ⟨r2, rfl, r20, r21, _, st5⟩
    have r21 := r21 (by omega)
    have ST5 := Lib.hid st5
    clear st5 ST4
    go_wp2_with fail
    refine (pick_st w _ [] [] w.heap.size ao ys cap _ 24 hy2 ST5.out (by omega) hz (by omega) (by omega)).mono ?_
    rintro e w6 ⟨r3, rfl, r30, r31, _, st6⟩
    have r31 := r31 (by omega)
    have ST6 := Lib.hid st6
    clear st6 ST5
    go_wp2_with fail
    obtain ⟨P, hP⟩ : ∃ P : Nat, (P : Int) = 4 + 2 * r2 - r3 / 23 := ⟨(4 + 2 * r2 - r3 / 23).toNat, by omega⟩
    rw [← hP]
    have hP16 : 1 ≤ P ∧ P ≤ 16 := by omega
    clear hP
    refine (TAIL.out _ _ (by omega) ST6.out P hP16.1 hP16.2).mono ?_
    rintro e w7 ⟨v7, xs, rfl, hl, st7⟩
    have ST7 := Lib.hid st7
    clear st7
    go_wp2_with fail
    go_ret
    exact ⟨v7, xs, rfl, hl, ST7.out⟩
theorem DrawCrossIn_any (ao : Option Addr) (cap : Nat) (zs : List Int) (w : World) (hy : CellsY w ao zs) (hcap : zs.length ≤ cap) (hcm : cap ≤ maxLen) :
    Calls Try.prog 21 #[.slice ao zs.length cap] w fun e w' => ∃ v xs, e = .returned v ∧ xs.length ≤ 20 ∧ St w w' [SI v xs] := by
  go_enter Try.func21, Try.ntmps21
  go_wp2_with fail
  refine (l91Chords_any ao cap zs w hy hcap hcm).mono ?_
  rintro e w2 ⟨v, xs, rfl, h1, h2⟩
  have H := Lib.hid h2
  clear h2
  go_wp2_with fail
  go_ret
  exact ⟨_, xs, rfl, h1, H.out⟩
theorem DrawCrossChords_any (ao : Option Addr) (cap : Nat) (zs : List Int) (w : World) (hy : CellsY w ao zs) (hcap : zs.length ≤ cap) (hcm : cap ≤ maxLen) :
    Calls Try.prog 32 #[.slice ao zs.length cap] w fun e w' => ∃ v xs, e = .returned v ∧ xs.length ≤ 20 ∧ St w w' [SI v xs] := by
  go_enter Try.func32, Try.ntmps32
  go_wp2_with fail
  refine (l91Chords_any ao cap zs w hy hcap hcm).mono ?_
  rintro e w2 ⟨v, xs, rfl, h1, h2⟩
  have H := Lib.hid h2
  clear h2
  go_wp2_with fail
  go_ret
  exact ⟨_, xs, rfl, h1, H.out⟩
end Go.Proofs.Ytgbfhpjdhacfmaa
