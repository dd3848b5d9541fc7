/- Contracts: what the draws of two pairings draw (l92Join). -/
import Derived.Test.YtfpcfolcdpdomaaDrawOfW
import Derived.Test.YtfpcfolcdpdomaaJoinL
namespace Go.Proofs.Ytfpcfolcdpdomaa
open Go.RowKit
set_option linter.unusedVariables false
set_option linter.unusedSimpArgs false

set_option maxHeartbeats 4000000 in
theorem l92Join_any (ao : Option Addr) (cap : Nat) (zs : List Int) (w : World) (hy : CellsY w ao zs) (hcap : zs.length ≤ cap) (hcm : cap ≤ maxLen) :
    Calls Try.prog 45 #[.slice ao zs.length cap] w fun e w' => ∃ v1 xs v2 ys, ∃ n m k : Int, e = .returned (.tuple #[.int .i64 n, .int .i64 m, v1, .int .i64 k, v2]) ∧ 1 ≤ n ∧ n ≤ 3 ∧ 1 ≤ m ∧ m ≤ 3 ∧ 1 ≤ k ∧ k ≤ 3 ∧ xs.length ≤ 40 ∧ ys.length ≤ 40 ∧ St w w' [SI v2 ys, SI v1 xs] := by
  go_enter Try.func45, Try.ntmps45
  go_wp2_with fail
  refine (l6Open_any ao cap zs w hy (Nat.le_trans hcap hcm) hcap hcm).mono ?_
  rintro e w1 ⟨rfl, o, b⟩
  have st1 := (St.init w).addSeg o b
  have hz : (zs.take 2000).length ≤ 1000000 := by simp; omega
  have hy2 := hy.take 2000
  generalize zs.take 2000 = ys at hz hy2 o st1
  clear o b hy
  go_wp2_with fail
  refine (pick_st w w1 [] [] w.heap.size ao ys cap _ 3 hy2 st1 (by omega) hz (by omega) (by omega)).mono ?_
  rintro e w2 ⟨a, rfl, a0, a1, _, st2⟩
  have a1 := a1 (by omega)
  obtain ⟨A, rfl⟩ := Int.eq_ofNat_of_zero_le a0
  clear st1 a0
  go_wp2_with fail
  refine (pick_st w w2 [] [] w.heap.size ao ys cap _ 3 hy2 st2 (by omega) hz (by omega) (by omega)).mono ?_
  rintro e w3 ⟨b, rfl, b0, b1, _, st3⟩
  have b1 := b1 (by omega)
  obtain ⟨B, rfl⟩ := Int.eq_ofNat_of_zero_le b0
  clear st2 b0
  go_wp2_with fail
  refine (pick_st w w3 [] [] w.heap.size ao ys cap _ 2 hy2 st3 (by omega) hz (by omega) (by omega)).mono ?_
  rintro e w4 ⟨c, rfl, c0, c1, _, st4⟩
  have c1 := c1 (by omega)
  obtain ⟨C, rfl⟩ := Int.eq_ofNat_of_zero_le c0
  clear st3 c0
  go_wp2_with fail
  refine (pick_st w w4 [] [] w.heap.size ao ys cap _ 24 hy2 st4 (by omega) hz (by omega) (by omega)).mono ?_
  rintro e w5 ⟨d, rfl, d0, d1, _, st5⟩
  have d1 := d1 (by omega)
  obtain ⟨D, rfl⟩ := Int.eq_ofNat_of_zero_le d0
  clear st4 d0
  obtain ⟨K, hK⟩ : ∃ K : Nat, (K : Int) = 1 + C + (D : Int) / 23 := ⟨(1 + C + (D : Int) / 23).toNat, by omega⟩
  clear c1 d1
  go_wp2_with fail
  rw [show (2 : Int) * (1 + (A : Int) + (1 + B)) = ((2 * (1 + A + (1 + B)) : Nat) : Int) by omega]
  refine (l91Pairs_any w w5 [] w.heap.size ao ys cap _ _ hy2 st5 (by omega) hz (by omega) (by omega)).mono ?_
  rintro e w6 ⟨v, xv, pv, rfl, lv, hpv, st6⟩
  clear st5
  replace st6 := st6.swap
  have HK := Lib.hid hK
  have hK1 : 1 ≤ K := by omega
  have hK3 : K ≤ 3 := by omega
  clear hK
  go_wp2_with fail
  rw [← HK.out, show (2 : Int) * (1 + (A : Int) + K) = ((2 * (1 + A + K) : Nat) : Int) by omega]
  refine (l91Pairs_any w w6 [SI v xv] w.heap.size ao ys cap _ _ hy2 st6 (by omega) hz (by omega) (by omega)).mono ?_
  rintro e w7 ⟨v2, xv2, pv2, rfl, lv2, hpv2, st7⟩
  clear st6
  go_wp2_with fail
  refine (pick_st w w7 [SI v2 xv2] [SI v xv] w.heap.size ao ys cap _ 2 hy2 st7 (by omega) hz (by omega) (by omega)).mono ?_
  rintro e w8 ⟨q, rfl, q0, q1, hq, st8⟩
  have q1 := q1 (by omega)
  obtain ⟨Q, rfl⟩ := Int.eq_ofNat_of_zero_le q0
  clear st7 q0
  by_cases hQ : Q = 0
  · subst hQ
    replace st8 := St.swap st8
    go_wp2_with fail
    rw [show (1 : Int) + (A : Int) = ((1 + A : Nat) : Int) by omega, show (1 : Int) + (B : Int) = ((1 + B : Nat) : Int) by omega]
    refine (l91OfG_any w w8 [SI v2 xv2, SI v xv] w.heap.size ao ys cap _ (1 + A) (1 + B) hy2 st8 (by omega) hz (by omega) (by omega)).mono ?_
    rintro e w9 ⟨vT, T, pT, rfl, hT1, hT2, hpT, st9⟩
    clear st8
    obtain ⟨hgT, hgm⟩ := gridB_rows (n := 1 + A) (m := 1 + B) (by omega) (by omega) (by omega) (by omega) hT1 hT2
    clear hT1 hT2 hgm
    obtain ⟨aT, cT, hv⟩ := st9.shapeS 0 rfl
    subst hv
    have lT : ((gr T).endsTo (gr T).ports).length ≤ 40 := by
      rw [Gr.endsTo_length]
      show (gr T).ports ≤ 40
      have h1 := (gr_ok hgT).n5
      have h2 := (gr_ok hgT).m5
      unfold Gr.ports
      omega
    go_wp2_with fail
    refine (l2Pairs_any aT cT T w9 (st9.texts 0 rfl) hgT).mono ?_
    rintro e w10 ⟨va, rfl, sta⟩
    have st10 := (st9.join sta).sub (b := [SI va ((gr T).endsTo (gr T).ports), SR w.heap.size ao ys.length cap pT]) (by simp)
    replace st10 := st10.swap
    clear st9 sta hgT
    generalize (gr T).endsTo (gr T).ports = xa at *
    go_wp2_with fail
    rw [show (1 : Int) + (A : Int) = ((1 + A : Nat) : Int) by omega]
    refine (l91OfG_any w w10 [SI va xa] w.heap.size ao ys cap _ (1 + A) K hy2 st10 (by omega) hz (by omega) (by omega)).mono ?_
    rintro e w11 ⟨vU, U, pU, rfl, hU1, hU2, hpU, st11⟩
    clear st10
    obtain ⟨hgU, hgm⟩ := gridB_rows (n := 1 + A) (m := K) (by omega) (by omega) (by omega) (by omega) hU1 hU2
    clear hU1 hU2 hgm
    obtain ⟨aU, cU, hv⟩ := st11.shapeS 0 rfl
    subst hv
    have lU : ((gr U).endsTo (gr U).ports).length ≤ 40 := by
      rw [Gr.endsTo_length]
      show (gr U).ports ≤ 40
      have h1 := (gr_ok hgU).n5
      have h2 := (gr_ok hgU).m5
      unfold Gr.ports
      omega
    go_wp2_with fail
    refine (l2Pairs_any aU cU U w11 (st11.texts 0 rfl) hgU).mono ?_
    rintro e w12 ⟨vb, rfl, stb⟩
    have st12 := (st11.join stb).sub (b := [SI vb ((gr U).endsTo (gr U).ports), SI va xa]) (by simp)
    have HST := Lib.hid st12
    clear st11 stb st12 hgU
    go_wp2_with fail
    refine bodyPost_ret (v := .tuple #[.int .i64 (1 + A), .int .i64 (1 + B), va, .int .i64 K, vb]) (by simp [results, Try.results45, go_sem]) rfl ⟨va, xa, vb, _, _, _, _, rfl, by omega, by omega, by omega, by omega, by omega, by omega, lT, lU, HST.out⟩
  · have hQ2 : ((Q : Int) == 0) = false := beq_eq_false_iff_ne.2 (by omega)
    have HST := Lib.hid (St.sub st8 (b := [SI v2 xv2, SI v xv]) (by simp))
    clear st8
    go_wp2_with fail
    refine bodyPost_ret (v := .tuple #[.int .i64 (1 + A), .int .i64 (1 + B), v, .int .i64 K, v2]) (by simp [results, Try.results45, go_sem]) rfl ⟨v, xv, v2, xv2, _, _, _, rfl, by omega, by omega, by omega, by omega, by omega, by omega, by omega, by omega, HST.out⟩

theorem DrawJoinPairs_any (ao : Option Addr) (cap : Nat) (zs : List Int) (w : World) (hy : CellsY w ao zs) (hcap : zs.length ≤ cap) (hcm : cap ≤ maxLen) :
    Calls Try.prog 24 #[.slice ao zs.length cap] w fun e w' => ∃ v1 xs v2 ys, ∃ n m k : Int, e = .returned (.tuple #[.int .i64 n, .int .i64 m, v1, .int .i64 k, v2]) ∧ 1 ≤ n ∧ n ≤ 3 ∧ 1 ≤ m ∧ m ≤ 3 ∧ 1 ≤ k ∧ k ≤ 3 ∧ xs.length ≤ 40 ∧ ys.length ≤ 40 ∧ St w w' [SI v2 ys, SI v1 xs] := by
  go_enter Try.func24, Try.ntmps24
  go_wp2_with fail
  refine (l92Join_any ao cap zs w hy hcap hcm).mono ?_
  rintro e w1 ⟨v1, xs, v2, ys, n, m, k, rfl, h1, h2, h3, h4, h5, h6, h7, h8, st⟩
  have HST := Lib.hid st
  clear st hy
  go_wp2_with fail
  refine bodyPost_ret (v := .tuple #[.int .i64 n, .int .i64 m, v1, .int .i64 k, v2]) (by simp [results, Try.results24, go_sem]) rfl ⟨v1, xs, v2, ys, n, m, k, rfl, h1, h2, h3, h4, h5, h6, h7, h8, HST.out⟩

theorem DrawJoinRounds_any (ao : Option Addr) (cap : Nat) (zs : List Int) (w : World) (hy : CellsY w ao zs) (hcap : zs.length ≤ cap) (hcm : cap ≤ maxLen) :
    Calls Try.prog 27 #[.slice ao zs.length cap] w fun e w' => ∃ v1 xs v2 ys, ∃ n m k : Int, e = .returned (.tuple #[.int .i64 n, .int .i64 m, v1, .int .i64 k, v2]) ∧ 1 ≤ n ∧ n ≤ 3 ∧ 1 ≤ m ∧ m ≤ 3 ∧ 1 ≤ k ∧ k ≤ 3 ∧ xs.length ≤ 40 ∧ ys.length ≤ 40 ∧ St w w' [SI v2 ys, SI v1 xs] := by
  go_enter Try.func27, Try.ntmps27
  go_wp2_with fail
  refine (l92Join_any ao cap zs w hy hcap hcm).mono ?_
  rintro e w1 ⟨v1, xs, v2, ys, n, m, k, rfl, h1, h2, h3, h4, h5, h6, h7, h8, st⟩
  have HST := Lib.hid st
  clear st hy
  go_wp2_with fail
  refine bodyPost_ret (v := .tuple #[.int .i64 n, .int .i64 m, v1, .int .i64 k, v2]) (by simp [results, Try.results27, go_sem]) rfl ⟨v1, xs, v2, ys, n, m, k, rfl, h1, h2, h3, h4, h5, h6, h7, h8, HST.out⟩

set_option maxHeartbeats 4000000 in
theorem DrawJoinClose_any (ao : Option Addr) (cap : Nat) (zs : List Int) (w : World) (hy : CellsY w ao zs) (hcap : zs.length ≤ cap) (hcm : cap ≤ maxLen) :
    Calls Try.prog 21 #[.slice ao zs.length cap] w fun e w' => ∃ v xs, ∃ n m : Int, e = .returned (.tuple #[.int .i64 n, .int .i64 m, v]) ∧ 1 ≤ n ∧ n ≤ 4 ∧ 1 ≤ m ∧ m ≤ 4 ∧ xs.length ≤ 40 ∧ St w w' [SI v xs] := by
  go_enter Try.func21, Try.ntmps21
  go_wp2_with fail
  refine (l6Open_any ao cap zs w hy (Nat.le_trans hcap hcm) hcap hcm).mono ?_
  rintro e w1 ⟨rfl, o, b⟩
  have st1 := (St.init w).addSeg o b
  have hz : (zs.take 2000).length ≤ 1000000 := by simp; omega
  have hy2 := hy.take 2000
  generalize zs.take 2000 = ys at hz hy2 o st1
  clear o b hy
  go_wp2_with fail
  refine (pick_st w w1 [] [] w.heap.size ao ys cap _ 4 hy2 st1 (by omega) hz (by omega) (by omega)).mono ?_
  rintro e w2 ⟨a, rfl, a0, a1, _, st2⟩
  have a1 := a1 (by omega)
  obtain ⟨A, rfl⟩ := Int.eq_ofNat_of_zero_le a0
  clear st1 a0
  go_wp2_with fail
  refine (pick_st w w2 [] [] w.heap.size ao ys cap _ 4 hy2 st2 (by omega) hz (by omega) (by omega)).mono ?_
  rintro e w3 ⟨b, rfl, b0, b1, _, st3⟩
  have b1 := b1 (by omega)
  obtain ⟨B, rfl⟩ := Int.eq_ofNat_of_zero_le b0
  clear st2 b0
  go_wp2_with fail
  refine (pick_st w w3 [] [] w.heap.size ao ys cap _ 2 hy2 st3 (by omega) hz (by omega) (by omega)).mono ?_
  rintro e w4 ⟨q, rfl, q0, q1, _, st4⟩
  have q1 := q1 (by omega)
  obtain ⟨Q, rfl⟩ := Int.eq_ofNat_of_zero_le q0
  clear st3 q0
  by_cases hQ : Q = 0
  · subst hQ
    go_wp2_with fail
    rw [show (1 : Int) + (A : Int) = ((1 + A : Nat) : Int) by omega, show (1 : Int) + (B : Int) = ((1 + B : Nat) : Int) by omega]
    refine (l91OfG_any w w4 [] w.heap.size ao ys cap _ (1 + A) (1 + B) hy2 st4 (by omega) hz (by omega) (by omega)).mono ?_
    rintro e w9 ⟨vT, T, pT, rfl, hT1, hT2, hpT, st9⟩
    clear st4
    obtain ⟨hgT, hgm⟩ := gridB_rows (n := 1 + A) (m := 1 + B) (by omega) (by omega) (by omega) (by omega) hT1 hT2
    clear hT1 hT2 hgm
    obtain ⟨aT, cT, hv⟩ := st9.shapeS 0 rfl
    subst hv
    have lT : ((gr T).endsTo (gr T).ports).length ≤ 40 := by
      rw [Gr.endsTo_length]
      show (gr T).ports ≤ 40
      have h1 := (gr_ok hgT).n5
      have h2 := (gr_ok hgT).m5
      unfold Gr.ports
      omega
    go_wp2_with fail
    refine (l2Pairs_any aT cT T w9 (st9.texts 0 rfl) hgT).mono ?_
    rintro e w10 ⟨va, rfl, sta⟩
    have st10 := (st9.join sta).sub (b := [SI va ((gr T).endsTo (gr T).ports)]) (by simp)
    have HST := Lib.hid st10
    clear st9 sta hgT st10
    generalize (gr T).endsTo (gr T).ports = xa at *
    go_wp2_with fail
    refine bodyPost_ret (v := .tuple #[.int .i64 (1 + A), .int .i64 (1 + B), va]) (by simp [results, Try.results21, go_sem]) rfl ⟨va, xa, _, _, rfl, by omega, by omega, by omega, by omega, lT, HST.out⟩
  · have hQ2 : ((Q : Int) == 0) = false := beq_eq_false_iff_ne.2 (by omega)
    go_wp2_with fail
    rw [show (2 : Int) * (1 + (A : Int) + (1 + B)) = ((2 * (1 + A + (1 + B)) : Nat) : Int) by omega]
    refine (l91Pairs_any w w4 [] w.heap.size ao ys cap _ _ hy2 st4 (by omega) hz (by omega) (by omega)).mono ?_
    rintro e w6 ⟨v, xv, pv, rfl, lv, hpv, st6⟩
    have HST := Lib.hid (st6.sub (b := [SI v xv]) (by simp))
    clear st4 st6
    go_wp2_with fail
    refine bodyPost_ret (v := .tuple #[.int .i64 (1 + A), .int .i64 (1 + B), v]) (by simp [results, Try.results21, go_sem]) rfl ⟨v, xv, _, _, rfl, by omega, by omega, by omega, by omega, by omega, HST.out⟩
end Go.Proofs.Ytfpcfolcdpdomaa
