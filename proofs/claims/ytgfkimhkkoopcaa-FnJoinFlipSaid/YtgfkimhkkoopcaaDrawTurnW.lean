/- Contracts: what the draws of pairings draw. -/
import Derived.Test.YtgfkimhkkoopcaaDrawPairsW
namespace Go.Proofs.Ytgfkimhkkoopcaa
open Go.RowKit
set_option linter.unusedVariables false

theorem DrawCrossTurn_any (ao : Option Addr) (cap : Nat) (zs : List Int) (w : World) (hy : CellsY w ao zs) (hcap : zs.length ≤ cap) (hcm : cap ≤ maxLen) :
    Calls Try.prog 30 #[.slice ao zs.length cap] w fun e w' => ∃ v xs, ∃ k : Int, e = .returned (.tuple #[v, .int .i64 k]) ∧ 0 ≤ k ∧ k ≤ 22 ∧ xs.length ≤ 20 ∧ OwnI w' w.heap.size v xs ∧ Below w.heap.size w w' := by
  go_enter Try.func30, Try.ntmps30
  go_wp2_with fail
  refine (l6Open_any ao cap zs w hy (Nat.le_trans hcap hcm) hcap hcm).mono ?_
  rintro e w1 ⟨rfl, o, b⟩
  have st1 := (St.init w).addSeg o b
  have hz : (zs.take 2000).length ≤ 1000000 := by simp; omega
  have hy2 := hy.take 2000
  generalize zs.take 2000 = ys at hz hy2 o st1
  clear o b hy
  go_wp2_with fail
  refine (pick_st w w1 [] [] w.heap.size ao ys cap _ 21 hy2 st1 (by omega) hz (by omega) (by omega)).mono ?_
  rintro e w2 ⟨a, rfl, a0, a1, _, st2⟩
  have a1 := a1 (by omega)
  clear st1
  go_wp2_with fail
  refine (pick_st w w2 [] [] w.heap.size ao ys cap _ 24 hy2 st2 (by omega) hz (by omega) (by omega)).mono ?_
  rintro e w3 ⟨b, rfl, b0, b1, _, st3⟩
  have b1 := b1 (by omega)
  clear st2
  go_wp2_with fail
  refine (pick_st w w3 [] [] w.heap.size ao ys cap _ 6 hy2 st3 (by omega) hz (by omega) (by omega)).mono ?_
  rintro e w4 ⟨c, rfl, c0, c1, _, st4⟩
  have c1 := c1 (by omega)
  clear st3
  go_wp2_with fail
  obtain ⟨P4, hP4⟩ : ∃ P : Nat, (P : Int) = 4 + 2 * c := ⟨(4 + 2 * c).toNat, by omega⟩
  rw [← hP4]
  refine (l91Pairs_any w w4 [] w.heap.size ao ys cap _ P4 hy2 st4 (by omega) hz (by omega) (by omega)).mono ?_
  rintro e w5 ⟨v, xv, pv, rfl, lv, _, st5⟩
  clear st4
  have HP4 := Lib.hid hP4
  clear hP4
  go_wp2_with fail
  go_ret2
  exact ⟨v, xv, _, rfl, by omega, by omega, by have := HP4.out; omega, st5.get 0 rfl, st5.below⟩

theorem l92Pairing_any (ao : Option Addr) (cap : Nat) (zs : List Int) (w : World) (hy : CellsY w ao zs) (hcap : zs.length ≤ cap) (hcm : cap ≤ maxLen) :
    Calls Try.prog 54 #[.slice ao zs.length cap] w fun e w' => ∃ v xs, ∃ n m : Int, e = .returned (.tuple #[.int .i64 n, .int .i64 m, v]) ∧ 1 ≤ n ∧ n ≤ 4 ∧ 1 ≤ m ∧ m ≤ 5 ∧ xs.length ≤ 20 ∧ OwnI w' w.heap.size v xs ∧ Below w.heap.size w w' := by
  go_enter Try.func54, Try.ntmps54
  go_wp2_with fail
  refine (l6Open_any ao cap zs w hy (Nat.le_trans hcap hcm) hcap hcm).mono ?_
  rintro e w1 ⟨rfl, o, b⟩
  have st1 := (St.init w).addSeg o b
  have hz : (zs.take 2000).length ≤ 1000000 := by simp; omega
  have hy2 := hy.take 2000
  generalize zs.take 2000 = ys at hz hy2 o st1
  clear o b hy
  go_wp2_with fail
  refine (pick_st w w1 [] [] w.heap.size ao ys cap _ 4 hy2 st1 (by omega) hz (by omega) (by omega)).mono ?_
  rintro e w2 ⟨a, rfl, a0, a1, _, st2⟩
  have a1 := a1 (by omega)
  clear st1
  go_wp2_with fail
  refine (pick_st w w2 [] [] w.heap.size ao ys cap _ 4 hy2 st2 (by omega) hz (by omega) (by omega)).mono ?_
  rintro e w3 ⟨b, rfl, b0, b1, _, st3⟩
  have b1 := b1 (by omega)
  clear st2
  go_wp2_with fail
  refine (pick_st w w3 [] [] w.heap.size ao ys cap _ 40 hy2 st3 (by omega) hz (by omega) (by omega)).mono ?_
  rintro e w4 ⟨c, rfl, c0, c1, _, st4⟩
  have c1 := c1 (by omega)
  clear st3
  go_wp2_with fail
  obtain ⟨P4, hP4⟩ : ∃ P : Nat, (P : Int) = 2 * (1 + a + (1 + b)) := ⟨(2 * (1 + a + (1 + b))).toNat, by omega⟩
  rw [← hP4]
  refine (l91Pairs_any w w4 [] w.heap.size ao ys cap _ P4 hy2 st4 (by omega) hz (by omega) (by omega)).mono ?_
  rintro e w5 ⟨v, xv, pv, rfl, lv, _, st5⟩
  clear st4
  have HP4 := Lib.hid hP4
  clear hP4
  go_wp2_with fail
  go_ret3
  exact ⟨v, xv, _, _, rfl, by omega, by omega, by omega, by omega, by have := HP4.out; omega, st5.get 0 rfl, st5.below⟩

theorem DrawJoinTurn_any (ao : Option Addr) (cap : Nat) (zs : List Int) (w : World) (hy : CellsY w ao zs) (hcap : zs.length ≤ cap) (hcm : cap ≤ maxLen) :
    Calls Try.prog 34 #[.slice ao zs.length cap] w fun e w' => ∃ v xs, ∃ n m : Int, e = .returned (.tuple #[.int .i64 n, .int .i64 m, v]) ∧ 1 ≤ n ∧ n ≤ 4 ∧ 1 ≤ m ∧ m ≤ 5 ∧ xs.length ≤ 20 ∧ OwnI w' w.heap.size v xs ∧ Below w.heap.size w w' := by
  go_enter Try.func34, Try.ntmps34
  go_wp2_with fail
  refine (l92Pairing_any ao cap zs w hy hcap hcm).mono ?_
  rintro e w1 ⟨v, xs, n, m, rfl, h⟩
  have H := Lib.hid h
  clear h
  go_wp2_with fail
  go_ret3
  exact ⟨v, xs, n, m, rfl, H.out⟩

theorem DrawJoinFlip_any (ao : Option Addr) (cap : Nat) (zs : List Int) (w : World) (hy : CellsY w ao zs) (hcap : zs.length ≤ cap) (hcm : cap ≤ maxLen) :
    Calls Try.prog 39 #[.slice ao zs.length cap] w fun e w' => ∃ v xs, ∃ n m : Int, e = .returned (.tuple #[.int .i64 n, .int .i64 m, v]) ∧ 1 ≤ n ∧ n ≤ 4 ∧ 1 ≤ m ∧ m ≤ 5 ∧ xs.length ≤ 20 ∧ OwnI w' w.heap.size v xs ∧ Below w.heap.size w w' := by
  go_enter Try.func39, Try.ntmps39
  go_wp2_with fail
  refine (l92Pairing_any ao cap zs w hy hcap hcm).mono ?_
  rintro e w1 ⟨v, xs, n, m, rfl, h⟩
  have H := Lib.hid h
  clear h
  go_wp2_with fail
  go_ret3
  exact ⟨v, xs, n, m, rfl, H.out⟩

end Go.Proofs.Ytgfkimhkkoopcaa
