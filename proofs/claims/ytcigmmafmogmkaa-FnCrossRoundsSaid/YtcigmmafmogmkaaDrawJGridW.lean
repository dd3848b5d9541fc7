/- Contracts: the draws of a grid of up to five rows and columns; RoundMany. -/
import Derived.Test.YtcigmmafmogmkaaDrawSomeW
import Derived.Test.YtcigmmafmogmkaaPathManyW
import Derived.Test.YtcigmmafmogmkaaAfterW
namespace Go.Proofs.Ytcigmmafmogmkaa
open Go.RowKit
set_option linter.unusedVariables false
set_option linter.unusedSimpArgs false

theorem sizes_setH {ss : List ByteArray} {i : Nat} {x : ByteArray} (h : ∀ s ∈ ss, 1 ≤ s.size ∧ s.size ≤ 6) (hx : 1 ≤ x.size ∧ x.size ≤ 6) : ∀ s ∈ ss.set i x, 1 ≤ s.size ∧ s.size ≤ 6 := by
  intro s hs
  rcases List.mem_or_eq_of_mem_set hs with hs | rfl
  · exact h s hs
  · exact hx

set_option maxHeartbeats 4000000 in
theorem l91SomeH_any (w0 w : World) (post : List Seg) (g : Nat) (ao : Option Addr) (zs : List Int) (cap p : Nat) (rows cols : Nat) (hy : CellsY w0 ao zs) (h : St w0 w (SR g ao zs.length cap p :: post))
    (hp : p ≤ 800000) (hz : zs.length ≤ 1000000) (hr1 : 1 ≤ rows) (hr4 : rows ≤ 5) (hc1 : 1 ≤ cols) (hc4 : cols ≤ 5) :
    Calls Try.prog 42 #[.pointer (some ⟨g, 0, none⟩), .int .i64 rows, .int .i64 cols] w fun e w' => ∃ v T p', e = .returned v ∧ 1 ≤ T.length ∧ T.length ≤ 5 ∧ (∀ s ∈ T, 1 ≤ s.size ∧ s.size ≤ 6) ∧ p' ≤ p + 400 ∧ St w0 w' (SS v T :: SR g ao zs.length cap p' :: post) := by
  have ST0 := Lib.hid h
  have HY := Lib.hid hy
  clear h hy
  go_enter Try.func42, Try.ntmps42
  go_wp2_with fail
  refine (pick_st w0 _ [] post g ao zs cap p rows HY.out ST0.out (by omega) hz (by omega) (by omega)).mono ?_
  rintro e w2 ⟨r, rfl, r0, r1, _, st1⟩
  have r1 := r1 (by omega)
  have ST1 := Lib.hid st1
  clear st1 ST0
  go_wp2_with fail
  refine (pick_st w0 _ [] post g ao zs cap _ cols HY.out ST1.out (by omega) hz (by omega) (by omega)).mono ?_
  rintro e w3 ⟨c, rfl, c0, c1, _, st2⟩
  have c1 := c1 (by omega)
  have ST2 := Lib.hid st2
  clear st2 ST1
  go_wp2_with fail
  obtain ⟨n, hn⟩ : ∃ n : Nat, (1 : Int) + r = (n : Nat) := ⟨(1 + r).toNat, by omega⟩
  obtain ⟨m, hm⟩ : ∃ m : Nat, (1 : Int) + c = (m : Nat) := ⟨(1 + c).toNat, by omega⟩
  rw [hn, hm]
  have hn4 : 1 ≤ n ∧ n ≤ 5 := by omega
  have hm4 : 1 ≤ m ∧ m ≤ 5 := by omega
  clear hn hm r0 r1 c0 c1
  refine (l91Of_any w0 _ post g ao zs cap _ n m HY.out ST2.out (by omega) hz (by omega) (by omega)).mono ?_
  rintro e w4 ⟨v, T, p4, rfl, hT, hTm, hp4, st4⟩
  obtain ⟨gb, cb, rfl⟩ := SS_block (st4.own _ List.mem_cons_self) (by omega)
  have hsz : ∀ s ∈ T, 1 ≤ s.size ∧ s.size ≤ 6 := fun s hs => by have := hTm s hs; omega
  have ST4 := Lib.hid st4
  have HTM := Lib.hid hTm
  have HSZ := Lib.hid hsz
  have HT := Lib.hid hT
  clear st4 hTm hsz ST2
  subst hT
  go_wp2_with fail
  refine (pick_st w0 _ [_] post g ao zs cap p4 60 HY.out ST4.out (by omega) hz (by omega) (by omega)).mono ?_
  rintro e w5 ⟨q, rfl, q0, q1, _, st5⟩
  have q1 := q1 (by omega)
  have ST5 := Lib.hid st5
  clear ST4
  by_cases h0 : q = 0
  · subst h0
    obtain ⟨hc0, hf0⟩ := SS_at (st5.own _ List.mem_cons_self) (i := 0) (by omega)
    have hrow : (rowOf T 0).size = m := HTM.out _ (by simp [rowOf, show 0 < T.length by omega])
    generalize rowOf T 0 = s at hc0 hrow
    clear st5
    go_wp2
    go_ret
    have hX : 1 ≤ (s.extract 1 m ++ ⟨#[120]⟩).size ∧ (s.extract 1 m ++ ⟨#[120]⟩).size ≤ 6 := by
      have e : (⟨#[120]⟩ : ByteArray).size = 1 := rfl
      rw [ByteArray.size_append, e]
      rw [ByteArray.size_extract]
      omega
    have hst := SS_stored (ST5.out.own _ List.mem_cons_self) (0) (s.extract 1 m ++ ⟨#[120]⟩)
    exact ⟨_, T.set (0) (s.extract 1 m ++ ⟨#[120]⟩), _, rfl, by rw [List.length_set]; omega, by rw [List.length_set]; omega, sizes_setH HSZ.out hX, (by omega : p4 + 1 ≤ p + 400), St.writeSeg [] (SR g ao zs.length cap (p4 + 1) :: post) _ _ ST5.out rfl hst.1 hst.2⟩
  · by_cases h1 : q = 1
    · subst h1
      obtain ⟨hc0, hf0⟩ := SS_at (st5.own _ List.mem_cons_self) (i := T.length - 1) (by omega)
      have hrow : (rowOf T (T.length - 1)).size = m := HTM.out _ (by simp [rowOf, show T.length - 1 < T.length by omega])
      generalize rowOf T (T.length - 1) = s at hc0 hrow
      clear st5
      go_wp2
      go_ret
      have hX : 1 ≤ (s ++ ⟨#[46]⟩).size ∧ (s ++ ⟨#[46]⟩).size ≤ 6 := by
        have e : (⟨#[46]⟩ : ByteArray).size = 1 := rfl
        rw [ByteArray.size_append, e]
        omega
      have hst := SS_stored (ST5.out.own _ List.mem_cons_self) (T.length - 1) (s ++ ⟨#[46]⟩)
      exact ⟨_, T.set (T.length - 1) (s ++ ⟨#[46]⟩), _, rfl, by rw [List.length_set]; omega, by rw [List.length_set]; omega, sizes_setH HSZ.out hX, (by omega : p4 + 1 ≤ p + 400), St.writeSeg [] (SR g ao zs.length cap (p4 + 1) :: post) _ _ ST5.out rfl hst.1 hst.2⟩
    · clear st5
      go_wp2
      go_ret
      exact ⟨_, T, _, rfl, by omega, by omega, HSZ.out, by omega, ST5.out⟩




theorem sizes_maxH {T : List ByteArray} (h : ∀ s ∈ T, 1 ≤ s.size ∧ s.size ≤ 6) : ∀ s ∈ T, s.size ≤ maxLen := fun s hs => by
  have := (h s hs).2
  unfold maxLen
  omega
/-- The rounds of a grid. -/
noncomputable def rmanyL (ss : List ByteArray) : Int := if gridB ss = true then ((gr ss).rmany : Nat) else 0
end Go.Proofs.Ytcigmmafmogmkaa
