/- Contracts: entering a grid, turning at a cell, going on (enter, turned, after). -/
import Derived.Test.YtebcnfemkchfjaaGridW
import Derived.Test.YtebcnfemkchfjaaBeamL
import Derived.Deep.RegionWith
namespace Go.Proofs.Ytebcnfemkchfjaa
open Go.RowKit
set_option linter.unusedVariables false

theorem turned_any (c : Int) (d : Nat) (w : World) (hd : d < 4) :
    Calls Try.prog 102 #[.int .u8 c, .int .i64 d] w fun e w' => e = .returned (.int .i64 (bend c d)) ∧ Below w.heap.size w w' := by
  by_cases h1 : c = 114
  · subst h1
    have hd2 : d = 0 ∨ d = 1 ∨ d = 2 ∨ d = 3 := by omega
    rcases hd2 with rfl | rfl | rfl | rfl
    all_goals
      go_enter Try.func102, Try.ntmps102
      go_wp2
      go_ret
      exact ⟨rfl, by go_grown⟩
  · by_cases h2 : c = 102
    · subst h2
      have hd2 : d = 0 ∨ d = 1 ∨ d = 2 ∨ d = 3 := by omega
      rcases hd2 with rfl | rfl | rfl | rfl
      all_goals
        go_enter Try.func102, Try.ntmps102
        go_wp2
        go_ret
        exact ⟨rfl, by go_grown⟩
    · have HB := Lib.hid (show bend c d = d by simp [bend, h1, h2])
      have g1 : (c == 114) = false := by simp [h1]
      have g2 : (c == 102) = false := by simp [h2]
      clear h1 h2
      go_enter Try.func102, Try.ntmps102
      go_wp2
      go_ret
      exact ⟨by rw [HB.out]; rfl, by go_grown⟩

theorem enter_any (ao : Option Addr) (cap : Nat) (ss : List ByteArray) (p : Nat) (w : World) (hx : CellsS w ao ss) (hg : gridB ss = true) (hp : p < (gr ss).ports) :
    Calls Try.prog 100 #[.slice ao ss.length cap, .int .i64 p] w fun e w' => e = .returned (.agg #[.int .i64 ((gr ss).ent p).1, .int .i64 ((gr ss).ent p).2]) ∧ Below w.heap.size w w' := by
  have hok := gr_ok hg
  have hn1 : 1 ≤ ss.length := hok.n1
  have hn5 : ss.length ≤ 5 := hok.n5
  have hm1 : 1 ≤ (rowOf ss 0).size := hok.m1
  have hm5 : (rowOf ss 0).size ≤ 5 := hok.m5
  obtain ⟨b, off, rfl, hc, hbb⟩ := hx.at (i := 0) (by omega)
  have hc0 := hc 0 (by omega)
  rw [Nat.add_zero] at hc0
  have hE : (gr ss).ent p = if p < (rowOf ss 0).size then (p, 2) else if p < (rowOf ss 0).size + ss.length then ((p - (rowOf ss 0).size) * (rowOf ss 0).size + (rowOf ss 0).size - 1, 3)
    else if p < 2 * (rowOf ss 0).size + ss.length then ((ss.length - 1) * (rowOf ss 0).size + (rowOf ss 0).size - 1 - (p - (rowOf ss 0).size - ss.length), 0)
    else ((ss.length - 1 - (p - 2 * (rowOf ss 0).size - ss.length)) * (rowOf ss 0).size, 1) := rfl
  have hp2 : p < 2 * ss.length + 2 * (rowOf ss 0).size := hp
  clear hc hx hok hp hg
  generalize (gr ss).ent p = E at hE ⊢
  generalize rowOf ss 0 = s0 at *
  have hm : s0.size = 1 ∨ s0.size = 2 ∨ s0.size = 3 ∨ s0.size = 4 ∨ s0.size = 5 := by omega
  by_cases p1 : p < s0.size
  · rw [if_pos p1] at hE
    subst hE
    go_enter Try.func100, Try.ntmps100
    go_wp2
    go_quiet (fail)
    go_wp2
    refine bodyPost_ret (v := .agg #[.int .i64 p, .int .i64 2]) (by simp [results, Try.results100, go_sem]) rfl ⟨rfl, ?_⟩
    go_grown
    exact below_dn ((Below.refl _ _).alloc (Nat.le_refl _) _) _
  · rw [if_neg p1] at hE
    by_cases p2 : p < s0.size + ss.length
    · rw [if_pos p2] at hE
      subst hE
      have q0 : (0 : Int) ≤ ((p : Int) - s0.size) * s0.size := Int.mul_nonneg (by omega) (by omega)
      have q1 : ((p : Int) - s0.size) * s0.size ≤ 5 * 5 := Int.mul_le_mul (by omega) (by omega) (by omega) (by omega)
      have e1 : (((p - s0.size) * s0.size + s0.size - 1 : Nat) : Int) = ((p : Int) - s0.size) * s0.size + s0.size - 1 := by
        have : ((p - s0.size : Nat) : Int) = (p : Int) - s0.size := by omega
        rw [← this, ← Int.natCast_mul]; omega
      have E1 := Lib.hid e1
      clear e1
      go_enter Try.func100, Try.ntmps100
      go_wp2
      go_quiet (fail)
      go_wp2
      refine bodyPost_ret (v := .agg #[.int .i64 (((p : Int) - s0.size) * s0.size + s0.size - 1), .int .i64 3]) (by simp [results, Try.results100, go_sem]) rfl ⟨by rw [E1.out]; rfl, ?_⟩
      go_grown
      exact below_dn ((Below.refl _ _).alloc (Nat.le_refl _) _) _
    · rw [if_neg p2] at hE
      by_cases p3 : p < 2 * s0.size + ss.length
      · rw [if_pos p3] at hE
        subst hE
        have q0 : (0 : Int) ≤ ((ss.length : Int) - 1) * s0.size := Int.mul_nonneg (by omega) (by omega)
        have q1 : ((ss.length : Int) - 1) * s0.size ≤ 5 * 5 := Int.mul_le_mul (by omega) (by omega) (by omega) (by omega)
        have e1 : (((ss.length - 1) * s0.size + s0.size - 1 - (p - s0.size - ss.length) : Nat) : Int) = ((ss.length : Int) - 1) * s0.size + s0.size - 1 - ((p : Int) - s0.size - ss.length) := by
          have : ((ss.length - 1 : Nat) : Int) = (ss.length : Int) - 1 := by omega
          rw [← this, ← Int.natCast_mul]; omega
        have E1 := Lib.hid e1
        clear e1
        go_enter Try.func100, Try.ntmps100
        go_wp2
        go_quiet (fail)
        go_wp2
        refine bodyPost_ret (v := .agg #[.int .i64 (((ss.length : Int) - 1) * s0.size + s0.size - 1 - ((p : Int) - s0.size - ss.length)), .int .i64 0]) (by simp [results, Try.results100, go_sem]) rfl ⟨by rw [E1.out]; rfl, ?_⟩
        go_grown
        exact below_dn ((Below.refl _ _).alloc (Nat.le_refl _) _) _
      · rw [if_neg p3] at hE
        subst hE
        have q0 : (0 : Int) ≤ ((ss.length : Int) - 1 - ((p : Int) - 2 * s0.size - ss.length)) * s0.size := Int.mul_nonneg (by omega) (by omega)
        have q1 : ((ss.length : Int) - 1 - ((p : Int) - 2 * s0.size - ss.length)) * s0.size ≤ 5 * 5 := Int.mul_le_mul (by omega) (by omega) (by omega) (by omega)
        have e1 : (((ss.length - 1 - (p - 2 * s0.size - ss.length)) * s0.size : Nat) : Int) = ((ss.length : Int) - 1 - ((p : Int) - 2 * s0.size - ss.length)) * s0.size := by
          have : ((ss.length - 1 - (p - 2 * s0.size - ss.length) : Nat) : Int) = (ss.length : Int) - 1 - ((p : Int) - 2 * s0.size - ss.length) := by omega
          rw [← this, ← Int.natCast_mul]
        have E1 := Lib.hid e1
        clear e1
        go_enter Try.func100, Try.ntmps100
        go_wp2
        go_quiet (fail)
        go_wp2
        refine bodyPost_ret (v := .agg #[.int .i64 (((ss.length : Int) - 1 - ((p : Int) - 2 * s0.size - ss.length)) * s0.size), .int .i64 1]) (by simp [results, Try.results100, go_sem]) rfl ⟨by rw [E1.out]; rfl, ?_⟩
        go_grown
        exact below_dn ((Below.refl _ _).alloc (Nat.le_refl _) _) _

end Go.Proofs.Ytebcnfemkchfjaa
