/- Contracts: the draws of two numbers (l91Size, DrawJoinUnit). -/
import Derived.Test.YtgbfhpjdhacfmaaPickSt
import Derived.Test.YtgbfhpjdhacfmaaAppend
namespace Go.Proofs.Ytgbfhpjdhacfmaa
open Go.RowKit
set_option linter.unusedVariables false
set_option linter.unusedSimpArgs false

theorem l91Size_any (ao : Option Addr) (cap : Nat) (zs : List Int) (M : Nat) (w : World) (hy : CellsY w ao zs) (hcap : zs.length ≤ cap) (hcm : cap ≤ maxLen) (hM : 1 ≤ M) (hM5 : M ≤ 5) :
    Calls Try.prog 48 #[.slice ao zs.length cap, .int .i64 M] w fun e w' => ∃ n m : Int, e = .returned (.tuple #[.int .i64 n, .int .i64 m]) ∧ 0 ≤ n ∧ n ≤ 10 ∧ 1 ≤ m ∧ m ≤ 5 ∧ St w w' [] := by
  go_enter Try.func48, Try.ntmps48
  go_wp2_with fail
  refine (l6Open_any ao cap zs w hy (Nat.le_trans hcap hcm) hcap hcm).mono ?_
  rintro e w1 ⟨rfl, o, b⟩
  have st1 := (St.init w).addSeg o b
  have hz : (zs.take 2000).length ≤ 1000000 := by simp; omega
  have hy2 := hy.take 2000
  generalize zs.take 2000 = ys at hz hy2 o st1
  clear o b hy
  go_wp2_with fail
  refine (pick_st w _ [] [] w.heap.size ao ys cap _ _ hy2 st1 (by omega) hz (by omega) (by omega)).mono ?_
  rintro e w2 ⟨r1, rfl, r10, r11, _, st2⟩
  have r11 := r11 (by omega)
  clear st1
  go_wp2_with fail
  refine (pick_st w _ [] [] w.heap.size ao ys cap _ _ hy2 st2 (by omega) hz (by omega) (by omega)).mono ?_
  rintro e w3 ⟨r2, rfl, r20, r21, _, st3⟩
  have r21 := r21 (by omega)
  clear st2
  go_wp2_with fail
  refine (pick_st w _ [] [] w.heap.size ao ys cap _ _ hy2 st3 (by omega) hz (by omega) (by omega)).mono ?_
  rintro e w4 ⟨r3, rfl, r30, r31, _, st4⟩
  have r31 := r31 (by omega)
  clear st3
  go_wp2_with fail
  refine (pick_st w _ [] [] w.heap.size ao ys cap _ _ hy2 st4 (by omega) hz (by omega) (by omega)).mono ?_
  rintro e w5 ⟨r4, rfl, r40, r41, _, st5⟩
  have r41 := r41 (by omega)
  have ST5 := Lib.hid (St.drop0 st5)
  clear st4 st5
  go_wp2_with fail
  go_ret2
  exact ⟨_, _, rfl, by omega, by omega, by omega, by omega, ST5.out⟩
theorem DrawJoinUnit_any (ao : Option Addr) (cap : Nat) (zs : List Int) (w : World) (hy : CellsY w ao zs) (hcap : zs.length ≤ cap) (hcm : cap ≤ maxLen) :
    Calls Try.prog 25 #[.slice ao zs.length cap] w fun e w' => ∃ n m : Int, e = .returned (.tuple #[.int .i64 n, .int .i64 m]) ∧ 0 ≤ n ∧ n ≤ 10 ∧ 1 ≤ m ∧ m ≤ 5 ∧ St w w' [] := by
  go_enter Try.func25, Try.ntmps25
  go_wp2_with fail
  refine (l91Size_any ao cap zs 5 w hy hcap hcm (by omega) (by omega)).mono ?_
  rintro e w2 ⟨n, m, rfl, h0, h1, h2, h3, h⟩
  have H := Lib.hid h
  clear h
  go_wp2_with fail
  go_ret2
  exact ⟨_, _, rfl, h0, h1, h2, h3, H.out⟩
end Go.Proofs.Ytgbfhpjdhacfmaa
