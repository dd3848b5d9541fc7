/- Contracts: the draws of a grid and a cell (l91At, l91Cell). -/
import Derived.Test.YtmlenaelijchjaaDrawSomeW
import Derived.Test.YtmlenaelijchjaaPut2W
import Derived.Test.YtmlenaelijchjaaStS
namespace Go.Proofs.Ytmlenaelijchjaa
open Go.RowKit
set_option linter.unusedVariables false
set_option linter.unusedSimpArgs false

theorem l91At_any (w0 w : World) (g : Nat) (ao : Option Addr) (zs : List Int) (cap p : Nat) (ag : Option Addr) (cg : Nat) (T : List ByteArray) (hy : CellsY w0 ao zs) (h : St w0 w [SS (.slice ag T.length cg) T, SR g ao zs.length cap p])
    (hp : p ≤ 800000) (hz : zs.length ≤ 1000000) (h1 : 1 ≤ T.length) (h4 : T.length ≤ 4) (hsz : ∀ s ∈ T, 1 ≤ s.size ∧ s.size ≤ 5) :
    Calls Try.prog 24 #[.pointer (some ⟨g, 0, none⟩), .slice ag T.length cg] w fun e w' => ∃ c : Int, e = .returned (.int .i64 c) ∧ -100 ≤ c ∧ c ≤ 100 ∧ St w0 w' [SS (.slice ag T.length cg) T, SR g ao zs.length cap (p + 3)] := by
  obtain ⟨bb, off, rfl, hc⟩ := h.textAt 0 rfl (j := 0) (by omega)
  rw [Nat.add_zero] at hc
  have hs0 : 1 ≤ (rowOf T 0).size ∧ (rowOf T 0).size ≤ 5 := hsz _ (by simp [rowOf, show 0 < T.length by omega])
  generalize rowOf T 0 = s0 at hc hs0
  have q0 : (0 : Int) ≤ (T.length : Int) * (s0.size : Int) := Int.mul_nonneg (by omega) (by omega)
  have q1 : (T.length : Int) * (s0.size : Int) ≤ 4 * 5 := Int.mul_le_mul (by omega) (by omega) (by omega) (by omega)
  have q2 : (1 : Int) * 1 ≤ (T.length : Int) * (s0.size : Int) := Int.mul_le_mul (by omega) (by omega) (by omega) (by omega)
  have ST := Lib.hid h
  clear h hsz
  go_enter Try.func24, Try.ntmps24
  go_wp2_with fail
  refine (pick_st w0 _ [_] [] g ao zs cap p _ hy ST.out (by omega) hz (by omega) (by omega)).mono ?_
  rintro e w4 ⟨r1, rfl, r10, r11, _, st4⟩
  have r11 := r11 (by omega)
  have ST4 := Lib.hid st4
  clear st4 ST
  go_wp2_with fail
  refine (pick_st w0 _ [_] [] g ao zs cap _ 24 hy ST4.out (by omega) hz (by omega) (by omega)).mono ?_
  rintro e w5 ⟨r2, rfl, r20, r21, _, st5⟩
  have r21 := r21 (by omega)
  have ST5 := Lib.hid st5
  clear st5 ST4
  go_wp2_with fail
  refine (pick_st w0 _ [_] [] g ao zs cap _ 24 hy ST5.out (by omega) hz (by omega) (by omega)).mono ?_
  rintro e w6 ⟨r3, rfl, r30, r31, _, st6⟩
  have r31 := r31 (by omega)
  have ST6 := Lib.hid st6
  clear st6 ST5
  go_wp2_with fail
  go_ret
  exact ⟨_, rfl, by omega, by omega, ST6.out⟩

theorem l91Cell_any (ao : Option Addr) (cap : Nat) (zs : List Int) (w : World) (hy : CellsY w ao zs) (hcap : zs.length ≤ cap) (hcm : cap ≤ maxLen) :
    Calls Try.prog 9 #[.slice ao zs.length cap] w fun e w' => ∃ v T, ∃ p : Int, e = .returned (.tuple #[v, .int .i64 p]) ∧ DrawnG w T v w' := by
  go_enter Try.func9, Try.ntmps9
  go_wp2_with fail
  refine (l6Open_any ao cap zs w hy (Nat.le_trans hcap hcm) hcap hcm).mono ?_
  rintro e w1 ⟨rfl, o, b⟩
  have st1 := (St.init w).addSeg o b
  have hz : (zs.take 2000).length ≤ 1000000 := by simp; omega
  have hy2 := hy.take 2000
  generalize zs.take 2000 = ys at hz hy2 o st1
  clear o b hy
  go_wp2_with fail
  refine (l91Some_any w w1 [] w.heap.size ao ys cap _ 4 4 hy2 st1 (by omega) hz (by omega) (by omega) (by omega) (by omega)).mono ?_
  rintro e w2 ⟨v, T, p2, rfl, h1, h2, h3, hp2, st2⟩
  have H3 := Lib.hid h3
  have HM := Lib.hid (sizes_max h3)
  have lm : T.length ≤ maxLen := by unfold maxLen; omega
  obtain ⟨a, c, rfl⟩ := st2.shapeS 0 rfl
  have ST2 := Lib.hid st2
  clear h3 st1 st2
  go_wp2_with fail
  refine (l91At_any w _ w.heap.size ao ys cap p2 a c T hy2 ST2.out (by omega) hz h1 h2 H3.out).mono ?_
  rintro e w3 ⟨c3, rfl, c30, c31, st3⟩
  have ST3 := Lib.hid st3
  clear st3 ST2
  go_wp2_with fail
  go_loopw [6, 7] (fun v6 v7 wr => ∃ (i p : Nat) (cc : Int), i ≤ 3 ∧ v7 = .int .i64 i ∧ v6 = .int .i64 cc ∧ p ≤ 1000 + 3 * i ∧ -100 ≤ cc ∧ cc ≤ 100 ∧ St w wr [SS (.slice a T.length c) T, SR w.heap.size ao ys.length cap p]) (fun _ v7 _ => 3 - (intOf v7).toNat)
  case atStart => exact ⟨0, _, c3, by omega, rfl, rfl, by omega, c30, c31, ST3.out⟩
  case round =>
    clear ST3
    obtain ⟨i, p, cc, hi, rfl, rfl, hp, cc0, cc1, st⟩ := hrel
    have ST := Lib.hid st
    have HEND := Lib.hid st.drop1
    by_cases hlt : i < 3
    · have hcall := l4Given_any a c T cc wr (st.texts 0 rfl) lm HM.out
      clear st
      go_wp2_with fail
      refine hcall.mono ?_
      rintro e w4 ⟨rfl, d4⟩
      have ST4 := Lib.hid (ST.out.dr d4)
      have HE4 := Lib.hid (HEND.out.dr d4)
      clear d4 ST HEND
      cases hcb : cellB T cc
      · go_wp2_with fail
        go_ret2
        exact ⟨_, T, _, rfl, h1, h2, H3.out, HE4.out⟩
      · obtain ⟨hg, q, rfl, hq⟩ := cellB_nat hcb
        have hL := l2Cell_any a c T q _ (ST4.out.texts 0 rfl) hg hq
        clear hcb
        go_wp2_with fail
        refine hL.mono ?_
        rintro e w5 ⟨rfl, d5⟩
        have ST5 := Lib.hid (ST4.out.dr d5)
        have HE5 := Lib.hid (HE4.out.dr d5)
        clear d5 ST4 HE4 hL hg hq
        generalize (gr T).sig q = sg at *
        cases h46 : (sg == 46)
        · go_wp2_with fail
          go_ret2
          exact ⟨_, T, _, rfl, h1, h2, H3.out, HE5.out⟩
        · go_wp2_with fail
          refine (l91At_any w _ w.heap.size ao ys cap p a c T hy2 ST5.out (by omega) hz h1 h2 H3.out).mono ?_
          rintro e w6 ⟨c6, rfl, c60, c61, st6⟩
          have ST6 := Lib.hid st6
          clear st6 ST5
          go_wp2_with fail
          go_roundw
          case rel => exact ⟨i + 1, _, c6, by omega, by go_num, rfl, by omega, c60, c61, ST6.out⟩
          case measure => simp [intOf]; omega
    · obtain rfl : i = 3 := by omega
      clear st
      go_wp2_with fail
      go_ret2
      exact ⟨_, T, _, rfl, h1, h2, H3.out, HEND.out⟩
theorem DrawChangeSelf_any (ao : Option Addr) (cap : Nat) (zs : List Int) (w : World) (hy : CellsY w ao zs) (hcap : zs.length ≤ cap) (hcm : cap ≤ maxLen) :
    Calls Try.prog 4 #[.slice ao zs.length cap] w fun e w' => ∃ v T, ∃ p : Int, e = .returned (.tuple #[v, .int .i64 p]) ∧ DrawnG w T v w' := by
  go_enter Try.func4, Try.ntmps4
  go_wp2_with fail
  refine (l91Cell_any ao cap zs w hy hcap hcm).mono ?_
  rintro e w2 ⟨v, T, p, rfl, h⟩
  have H := Lib.hid h
  clear h
  go_wp2_with fail
  go_ret2
  exact ⟨_, T, p, rfl, H.out⟩
end Go.Proofs.Ytmlenaelijchjaa
