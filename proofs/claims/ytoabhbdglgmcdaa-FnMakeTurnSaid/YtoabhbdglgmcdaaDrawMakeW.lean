/- Contracts: what the draws of a pairing that a grid often has draw (l92Small, l92Made). -/
import Derived.Test.YtoabhbdglgmcdaaDrawOfW
import Derived.Test.YtoabhbdglgmcdaaDrawPairsW
import Derived.Test.YtoabhbdglgmcdaaCellW
import Derived.Test.YtoabhbdglgmcdaaMadeW
namespace Go.Proofs.Ytoabhbdglgmcdaa
open Go.RowKit
set_option linter.unusedVariables false
set_option linter.unusedSimpArgs false

set_option maxHeartbeats 2000000 in
theorem l92Small_any (w0 w : World) (post : List Seg) (g : Nat) (ao : Option Addr) (zs : List Int) (cap p : Nat) (hy : CellsY w0 ao zs) (h : St w0 w (SR g ao zs.length cap p :: post)) (hp : p ≤ 900000) (hz : zs.length ≤ 1000000) :
    Calls Try.prog 57 #[.pointer (some ⟨g, 0, none⟩)] w fun e w' => ∃ n m p' : Nat, e = .returned (.tuple #[.int .i64 n, .int .i64 m]) ∧ 1 ≤ n ∧ n ≤ 3 ∧ 1 ≤ m ∧ m ≤ 3 ∧ p' ≤ p + 10 ∧ St w0 w' (SR g ao zs.length cap p' :: post) := by
  go_enter Try.func57, Try.ntmps57
  go_wp2_with fail
  refine (pick_st w0 w [] post g ao zs cap _ 3 hy h (by omega) hz (by omega) (by omega)).mono ?_
  rintro e w2 ⟨a, rfl, a0, a1, _, st2⟩
  have a1 := a1 (by omega)
  obtain ⟨A, rfl⟩ := Int.eq_ofNat_of_zero_le a0
  clear a0 h
  go_wp2_with fail
  refine (pick_st w0 w2 [] post g ao zs cap _ 3 hy st2 (by omega) hz (by omega) (by omega)).mono ?_
  rintro e w3 ⟨b, rfl, b0, b1, _, st3⟩
  have b1 := b1 (by omega)
  obtain ⟨B, rfl⟩ := Int.eq_ofNat_of_zero_le b0
  clear b0 st2
  by_cases hA : A = 2
  · subst hA
    by_cases hB : B = 2
    · subst hB
      go_wp2_with fail
      refine (pick_st w0 w3 [] post g ao zs cap _ 2 hy st3 (by omega) hz (by omega) (by omega)).mono ?_
      rintro e w4 ⟨c, rfl, c0, c1, _, st4⟩
      have c1 := c1 (by omega)
      obtain ⟨C, rfl⟩ := Int.eq_ofNat_of_zero_le c0
      clear c0 st3
      go_wp2_with fail
      refine (pick_st w0 w4 [] post g ao zs cap _ 8 hy st4 (by omega) hz (by omega) (by omega)).mono ?_
      rintro e w5 ⟨d, rfl, d0, d1, _, st5⟩
      have d1 := d1 (by omega)
      obtain ⟨D, rfl⟩ := Int.eq_ofNat_of_zero_le d0
      clear d0 st4
      have ST := Lib.hid st5
      clear st5
      by_cases hD : D = 0
      · subst hD
        go_wp2
        go_ret2
        exact ⟨3, 3, _, rfl, by omega, by omega, by omega, by omega, by omega, ST.out⟩
      · have e1 : ((D : Int) == 0) = false := by rw [beq_eq_false_iff_ne]; omega
        obtain ⟨E, hE⟩ : ∃ E : Nat, (E : Int) = 2 - C := ⟨2 - C, by omega⟩
        have HE := Lib.hid hE
        have hE2 : 1 ≤ E ∧ E ≤ 3 := by omega
        clear hE
        go_wp2
        go_ret2
        exact ⟨3, E, _, by rw [HE.out]; rfl, by omega, by omega, by omega, by omega, by omega, ST.out⟩
    · have e1 : ((1 + (B : Int)) == 3) = false := by rw [beq_eq_false_iff_ne]; omega
      have ST := Lib.hid st3
      clear st3
      go_wp2
      go_ret2
      exact ⟨3, 1 + B, _, by rw [Int.natCast_add]; rfl, by omega, by omega, by omega, by omega, by omega, ST.out⟩
  · have e1 : ((1 + (A : Int)) == 3) = false := by rw [beq_eq_false_iff_ne]; omega
    have ST := Lib.hid st3
    clear st3
    go_wp2
    go_ret2
    exact ⟨1 + A, 1 + B, _, by rw [Int.natCast_add, Int.natCast_add]; rfl, by omega, by omega, by omega, by omega, by omega, ST.out⟩

set_option maxHeartbeats 2000000 in
theorem l92Made_any (ao : Option Addr) (cap : Nat) (zs : List Int) (w : World) (hy : CellsY w ao zs) (hcap : zs.length ≤ cap) (hcm : cap ≤ maxLen) :
    Calls Try.prog 40 #[.slice ao zs.length cap] w fun e w' => ∃ v xs, ∃ n m : Int, e = .returned (.tuple #[.int .i64 n, .int .i64 m, v]) ∧ 1 ≤ n ∧ n ≤ 4 ∧ 1 ≤ m ∧ m ≤ 5 ∧ xs.length ≤ 20 ∧ OwnI w' w.heap.size v xs ∧ Below w.heap.size w w' := by
  go_enter Try.func40, Try.ntmps40
  go_wp2_with fail
  refine (l6Open_any ao cap zs w hy (Nat.le_trans hcap hcm) hcap hcm).mono ?_
  rintro e w1 ⟨rfl, o, b⟩
  have st1 := (St.init w).addSeg o b
  have hz : (zs.take 2000).length ≤ 1000000 := by simp; omega
  have hy2 := hy.take 2000
  generalize zs.take 2000 = ys at hz hy2 o st1
  clear o b hy
  go_wp2_with fail
  refine (l92Small_any w w1 [] w.heap.size ao ys cap _ hy2 st1 (by omega) hz).mono ?_
  rintro e w2 ⟨N, M, p2, rfl, hN1, hN3, hM1, hM3, hp2, st2⟩
  clear st1
  go_wp2_with fail
  refine (pick_st w w2 [] [] w.heap.size ao ys cap _ 4 hy2 st2 (by omega) hz (by omega) (by omega)).mono ?_
  rintro e w3 ⟨q, rfl, q0, q1, _, st3⟩
  have q1 := q1 (by omega)
  obtain ⟨Q, rfl⟩ := Int.eq_ofNat_of_zero_le q0
  clear q0 st2
  by_cases hQ : Q = 0
  · subst hQ
    go_wp2_with (go_at_call 50; refine (l2Ports_any _ _ _ (by omega) (by omega) (by omega) (by omega)).mono ?_; rintro e w' ⟨rfl, rfl⟩)
    rw [show 2 * ((N : Int) + (M : Int)) = ((2 * (N + M) : Nat) : Int) by omega]
    refine (l91Pairs_any w w3 [] w.heap.size ao ys cap _ (2 * (N + M)) hy2 st3 (by omega) hz (by omega) (by omega)).mono ?_
    rintro e w5 ⟨v, xv, pv, rfl, lv, _, st5⟩
    have ST := Lib.hid st5
    clear st3 st5
    go_wp2_with fail
    go_ret3
    exact ⟨v, xv, _, _, rfl, by omega, by omega, by omega, by omega, by omega, ST.out.get 0 rfl, ST.out.below⟩
  · have e1 : ((Q : Int) == 0) = false := by rw [beq_eq_false_iff_ne]; omega
    go_wp2_with fail
    refine (l91OfG_any w w3 [] w.heap.size ao ys cap _ N M hy2 st3 (by omega) hz (by omega) (by omega)).mono ?_
    rintro e w4 ⟨vT, T, pT, rfl, hT1, hT2, hpT, st4⟩
    clear st3
    obtain ⟨hgT, hgm⟩ := gridB_rows (n := N) (m := M) (by omega) (by omega) (by omega) (by omega) hT1 hT2
    clear hT1 hT2 hgm
    obtain ⟨aT, cT, hv⟩ := st4.shapeS 0 rfl
    subst hv
    have lT : ((gr T).endsTo (gr T).ports).length ≤ 20 := by
      rw [Gr.endsTo_length]
      have h1 := (gr_ok hgT).n5
      have h2 := (gr_ok hgT).m5
      unfold Gr.ports
      omega
    go_wp2_with fail
    refine (l2Pairs_any aT cT T w4 (st4.texts 0 rfl) hgT).mono ?_
    rintro e w10 ⟨va, rfl, sta⟩
    have st10 := (st4.join sta).subm (b := [SI va ((gr T).endsTo (gr T).ports)]) (by simp)
    have ST := Lib.hid st10
    have LT := Lib.hid lT
    clear st4 sta hgT st10 lT
    generalize (gr T).endsTo (gr T).ports = xa at *
    go_wp2_with fail
    go_ret3
    exact ⟨va, xa, _, _, rfl, by omega, by omega, by omega, by omega, LT.out, ST.out.get 0 rfl, ST.out.below⟩

theorem DrawMakeMany_any (ao : Option Addr) (cap : Nat) (zs : List Int) (w : World) (hy : CellsY w ao zs) (hcap : zs.length ≤ cap) (hcm : cap ≤ maxLen) :
    Calls Try.prog 22 #[.slice ao zs.length cap] w fun e w' => ∃ v xs, ∃ n m : Int, e = .returned (.tuple #[.int .i64 n, .int .i64 m, v]) ∧ 1 ≤ n ∧ n ≤ 4 ∧ 1 ≤ m ∧ m ≤ 5 ∧ xs.length ≤ 20 ∧ OwnI w' w.heap.size v xs ∧ Below w.heap.size w w' := by
  go_enter Try.func22, Try.ntmps22
  go_wp2_with fail
  refine (l92Made_any ao cap zs w hy hcap hcm).mono ?_
  rintro e w1 ⟨v, xs, n, m, rfl, h⟩
  have H := Lib.hid h
  clear h
  go_wp2_with fail
  go_ret3
  exact ⟨v, xs, n, m, rfl, H.out⟩

theorem DrawMakeFirst_any (ao : Option Addr) (cap : Nat) (zs : List Int) (w : World) (hy : CellsY w ao zs) (hcap : zs.length ≤ cap) (hcm : cap ≤ maxLen) :
    Calls Try.prog 29 #[.slice ao zs.length cap] w fun e w' => ∃ v xs, ∃ n m : Int, e = .returned (.tuple #[.int .i64 n, .int .i64 m, v]) ∧ 1 ≤ n ∧ n ≤ 4 ∧ 1 ≤ m ∧ m ≤ 5 ∧ xs.length ≤ 20 ∧ OwnI w' w.heap.size v xs ∧ Below w.heap.size w w' := by
  go_enter Try.func29, Try.ntmps29
  go_wp2_with fail
  refine (l92Made_any ao cap zs w hy hcap hcm).mono ?_
  rintro e w1 ⟨v, xs, n, m, rfl, h⟩
  have H := Lib.hid h
  clear h
  go_wp2_with fail
  go_ret3
  exact ⟨v, xs, n, m, rfl, H.out⟩

theorem DrawMakeFewest_any (ao : Option Addr) (cap : Nat) (zs : List Int) (w : World) (hy : CellsY w ao zs) (hcap : zs.length ≤ cap) (hcm : cap ≤ maxLen) :
    Calls Try.prog 28 #[.slice ao zs.length cap] w fun e w' => ∃ v xs, ∃ n m : Int, e = .returned (.tuple #[.int .i64 n, .int .i64 m, v]) ∧ 1 ≤ n ∧ n ≤ 4 ∧ 1 ≤ m ∧ m ≤ 5 ∧ xs.length ≤ 20 ∧ OwnI w' w.heap.size v xs ∧ Below w.heap.size w w' := by
  go_enter Try.func28, Try.ntmps28
  go_wp2_with fail
  refine (l92Made_any ao cap zs w hy hcap hcm).mono ?_
  rintro e w1 ⟨v, xs, n, m, rfl, h⟩
  have H := Lib.hid h
  clear h
  go_wp2_with fail
  go_ret3
  exact ⟨v, xs, n, m, rfl, H.out⟩
end Go.Proofs.Ytoabhbdglgmcdaa
