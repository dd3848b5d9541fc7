/- Contract: what l91Of draws: so many rows of one size. -/
/- Contracts: what the draws of grids draw (l91Some, l91One, l91Port). -/
/- Contracts: the draws of a grid and ports (l91Port, DrawCrossSelf, DrawCrossBetween). -/
import Derived.Test.YtmlenaelijchjaaDrawGridL
import Derived.Test.YtmlenaelijchjaaStS
namespace Go.Proofs.Ytmlenaelijchjaa
open Go.RowKit
set_option linter.unusedVariables false
set_option linter.unusedSimpArgs false

def OfIn (w0 wr : World) (post : List Seg) (g : Nat) (ao : Option Addr) (zl cap P m : Nat) (T : List ByteArray) (vT v10 v11 : Value) : Prop :=
  ∃ (k p : Nat) (ys : List Int), v11 = .int .i64 k ∧ k ≤ m ∧ ys.length = k ∧ p ≤ P + 2 * k ∧ St w0 wr (SY v10 ys :: SS vT T :: SR g ao zl cap p :: post)
def OfOut (w0 wr : World) (post : List Seg) (g : Nat) (ao : Option Addr) (zl cap P n m : Nat) (v7 v9 : Value) : Prop :=
  ∃ (i p : Nat) (T : List ByteArray), v9 = .int .i64 i ∧ i ≤ n ∧ T.length = i ∧ (∀ s ∈ T, s.size = m) ∧ p ≤ P + 2 * m * i ∧ St w0 wr (SS v7 T :: SR g ao zl cap p :: post)

set_option maxHeartbeats 8000000 in
theorem l91Of_any (w0 w : World) (post : List Seg) (g : Nat) (ao : Option Addr) (zs : List Int) (cap p n m : Nat) (hy : CellsY w0 ao zs) (h : St w0 w (SR g ao zs.length cap p :: post))
    (hp : p ≤ 900000) (hz : zs.length ≤ 1000000) (hn : n ≤ 10) (hm : m ≤ 10) :
    Calls Try.prog 41 #[.pointer (some ⟨g, 0, none⟩), .int .i64 n, .int .i64 m] w fun e w' => ∃ v T p', e = .returned v ∧ T.length = n ∧ (∀ s ∈ T, s.size = m) ∧ p' ≤ p + 300 ∧ St w0 w' (SS v T :: SR g ao zs.length cap p' :: post) := by
  have hs := h.size
  have st1 : St w0 (w.alloc (.cells #[] 9)) (SS (.slice (some ⟨w.heap.size, 0, none⟩) 0 0) [] :: SR g ao zs.length cap p :: post) :=
    h.addSeg (World.ownsRow_made w #[] 0 (Nat.le_refl _) (Nat.zero_le _) rfl) ((Below.refl _ _).alloc (Nat.le_refl _) (.cells #[] 9))
  have ST1 := Lib.hid st1
  have HY := Lib.hid hy
  clear st1 h hy
  go_enter Try.func41, Try.ntmps41
  go_wp2_with fail
  refine (pick_st w0 _ [SS (.slice (some ⟨w.heap.size, 0, none⟩) 0 0) []] post g ao zs cap p 4 HY.out ST1.out (by omega) hz (by omega) (by omega)).mono ?_
  rintro e w2 ⟨kd, rfl, kd0, kd1, _, st2⟩
  have kd1 := kd1 (by omega)
  have ST2 := Lib.hid st2
  clear st2
  go_wp2_with fail
  go_loopw [7, 9] (fun v7 v9 wr => OfOut w0 wr post g ao zs.length cap (p + 1) n m v7 v9) (fun _ v9 _ => n - (intOf v9).toNat)
  case atStart => exact ⟨0, p + 1, [], rfl, Nat.zero_le _, rfl, by simp, by omega, ST2.out⟩
  case round =>
    obtain ⟨i, p1, T, rfl, hi, hT, hTm, hp1, st⟩ := hrel
    obtain ⟨a7, c7, rfl, _⟩ := SS_shape (st.own _ List.mem_cons_self)
    have ST := Lib.hid st
    have HTM := Lib.hid hTm
    have HT := Lib.hid hT
    clear hTm hT ST1 ST2 st
    have hmi : 2 * m * i ≤ 2 * 10 * 10 := Nat.mul_le_mul (Nat.mul_le_mul_left _ hm) (by omega)
    by_cases hlt : i < n
    · have st3 := ST.out.addSeg (s := SY (.slice (some ⟨wr.heap.size, 0, none⟩) 0 0) []) (World.ownsRow_made wr #[] 0 (Nat.le_refl _) (Nat.zero_le _) rfl) ((Below.refl _ _).alloc (Nat.le_refl _) (.cells #[] 5))
      have ST3 := Lib.hid st3
      clear st3
      go_wp2_with fail
      go_loopw [10, 11, 12] (fun v10 v11 _ wr2 => OfIn w0 wr2 post g ao zs.length cap p1 m T (.slice a7 T.length c7) v10 v11) (fun _ v11 _ _ => m - (intOf v11).toNat)
      case atStart => exact ⟨0, p1, [], rfl, Nat.zero_le _, rfl, by omega, ST3.out⟩
      case round =>
        obtain ⟨k, p2, ys, rfl, hk, hys, hp2, st⟩ := hrel
        have ST4 := Lib.hid st
        have HYS := Lib.hid hys
        clear st hys ST3
        by_cases hlt2 : k < m
        · go_wp2_with fail
          refine (pick_st w0 _ [_, _] post g ao zs cap p2 3 HY.out ST4.out (by omega) hz (by omega) (by omega)).mono ?_
          rintro e w3 ⟨r, rfl, r0, r1, _, st5⟩
          have r1 := r1 (by omega)
          have ST5 := Lib.hid st5
          have HSA := Lib.hid (fun c : Int => st5.step ((Below.refl _ _).alloc (Nat.le_refl _) (.cells #[.int .u8 c] 5)))
          clear st5 ST4
          have hpar : ((i : Int) + k) % 2 = 0 ∨ ((i : Int) + k) % 2 = 1 := by omega
          have hr : r = 0 ∨ r = 1 ∨ r = 2 := by omega
          have hkd : kd = 0 ∨ kd = 2 ∨ kd = 3 ∨ kd = 1 := by omega
          clear r0 r1 kd0 kd1
          rcases hkd with rfl | rfl | rfl | rfl
          · rcases hr with rfl | rfl | rfl <;> rcases hpar with hpar | hpar
            all_goals
              go_wp2_with (at_builtin; refine wpPushY _ rfl _ _ rfl w0.heap.size _ _ _ _ rfl ((HSA.out _).own _ List.mem_cons_self) rfl (cell_one_new _ _ _) (by rw [HYS.out]; omega) ?_; intro v' w4 hbec; have HS4 := Lib.hid ((HSA.out _).became0 hbec); clear hbec)
              go_roundw
              case rel => exact ⟨k + 1, _, _, by go_num, by omega, by rw [List.length_append, HYS.out]; rfl, (by omega : p2 + 1 ≤ p1 + 2 * (k + 1)), HS4.out⟩
              case measure => simp [intOf]; omega
          · rcases hr with rfl | rfl | rfl
            all_goals
              go_wp2_with (at_builtin; refine wpPushY _ rfl _ _ rfl w0.heap.size _ _ _ _ rfl ((HSA.out _).own _ List.mem_cons_self) rfl (cell_one_new _ _ _) (by rw [HYS.out]; omega) ?_; intro v' w4 hbec; have HS4 := Lib.hid ((HSA.out _).became0 hbec); clear hbec)
              go_roundw
              case rel => exact ⟨k + 1, _, _, by go_num, by omega, by rw [List.length_append, HYS.out]; rfl, (by omega : p2 + 1 ≤ p1 + 2 * (k + 1)), HS4.out⟩
              case measure => simp [intOf]; omega
          · rcases hr with rfl | rfl | rfl
            all_goals
              go_wp2_with (at_builtin; refine wpPushY _ rfl _ _ rfl w0.heap.size _ _ _ _ rfl ((HSA.out _).own _ List.mem_cons_self) rfl (cell_one_new _ _ _) (by rw [HYS.out]; omega) ?_; intro v' w4 hbec; have HS4 := Lib.hid ((HSA.out _).became0 hbec); clear hbec)
              go_roundw
              case rel => exact ⟨k + 1, _, _, by go_num, by omega, by rw [List.length_append, HYS.out]; rfl, (by omega : p2 + 1 ≤ p1 + 2 * (k + 1)), HS4.out⟩
              case measure => simp [intOf]; omega
          · rcases hr with rfl | rfl | rfl
            all_goals
              go_wp2_with fail
              refine (pick_st w0 _ [_, _] post g ao zs cap _ 3 HY.out ST5.out (by omega) hz (by omega) (by omega)).mono ?_
              rintro e w5 ⟨r2, rfl, q0, q1, _, st6⟩
              have q1 := q1 (by omega)
              have HSA := Lib.hid (fun c : Int => st6.step ((Below.refl _ _).alloc (Nat.le_refl _) (.cells #[.int .u8 c] 5)))
              clear st6 ST5
              by_cases hq : 0 < r2
              · rcases hpar with hpar | hpar
                all_goals
                  go_wp2_with (at_builtin; refine wpPushY _ rfl _ _ rfl w0.heap.size _ _ _ _ rfl ((HSA.out _).own _ List.mem_cons_self) rfl (cell_one_new _ _ _) (by rw [HYS.out]; omega) ?_; intro v' w4 hbec; have HS4 := Lib.hid ((HSA.out _).became0 hbec); clear hbec)
                  go_roundw
                  case rel => exact ⟨k + 1, _, _, by go_num, by omega, by rw [List.length_append, HYS.out]; rfl, (by omega : p2 + 2 ≤ p1 + 2 * (k + 1)), HS4.out⟩
                  case measure => simp [intOf]; omega
              · go_wp2_with (at_builtin; refine wpPushY _ rfl _ _ rfl w0.heap.size _ _ _ _ rfl ((HSA.out _).own _ List.mem_cons_self) rfl (cell_one_new _ _ _) (by rw [HYS.out]; omega) ?_; intro v' w4 hbec; have HS4 := Lib.hid ((HSA.out _).became0 hbec); clear hbec)
                go_roundw
                case rel => exact ⟨k + 1, _, _, by go_num, by omega, by rw [List.length_append, HYS.out]; rfl, (by omega : p2 + 2 ≤ p1 + 2 * (k + 1)), HS4.out⟩
                case measure => simp [intOf]; omega
        · obtain rfl : k = m := by omega
          obtain ⟨a10, c10, rfl, t, ht, hcv⟩ := SY_shape (ST4.out.own _ List.mem_cons_self)
          have hcv := hcv _ (fun _ _ => rfl)
          have st5 := ST4.out.step ((Below.refl _ _).alloc (Nat.le_refl _) (.cells #[.string t] 9))
          have ST5 := Lib.hid st5
          have HTT := Lib.hid ht
          clear st5 ht ST4
          go_wp2_with (at_builtin; refine wpPushS _ rfl _ _ rfl w0.heap.size _ _ _ _ rfl (ST5.out.own _ (List.mem_cons_of_mem _ List.mem_cons_self)) rfl (cell_one_new _ _ _) (by rw [HT.out]; omega) ?_; intro v' w4 hbec; have HS4 := Lib.hid (ST5.out.became1 hbec).drop0; clear hbec)
          go_roundw
          case rel => exact ⟨i + 1, p2, T ++ [t], by go_num, by omega, by rw [List.length_append, HT.out]; rfl, (by
            intro s hs
            rcases List.mem_append.1 hs with hs | hs
            · exact HTM.out s hs
            · rw [List.mem_singleton.1 hs, HTT.out, HYS.out]), (by rw [Nat.mul_succ]; omega), HS4.out⟩
          case measure => simp [intOf]; omega
    · obtain rfl : i = n := by omega
      have hp3 : p1 ≤ p + 300 := by omega
      go_wp2
      go_ret
      exact ⟨_, T, p1, rfl, HT.out, HTM.out, hp3, ST.out⟩

theorem SS_at {w : World} {base g cap : Nat} {ss : List ByteArray} (h : (SS (.slice (some ⟨g, 0, none⟩) ss.length cap) ss).own w base) {i : Nat} (hi : i < ss.length) :
    w.cell? ⟨g, i, none⟩ = some (.string (rowOf ss i)) ∧ w.frozen? ⟨g, i, none⟩ = false := by
  have hc := World.ownsRow.cellAt h i (by show i < ss.length * 1; omega)
  refine ⟨?_, World.ownsRow.frozenAt h i⟩
  rw [hc]
  simp [rowOf, hi, SS]
theorem SS_block {w : World} {base : Nat} {v : Value} {ss : List ByteArray} (h : (SS v ss).own w base) (h1 : 1 ≤ ss.length) : ∃ g cap, v = .slice (some ⟨g, 0, none⟩) ss.length cap := by
  rcases h.2 with ⟨hv, hn⟩ | ⟨g, cap, cur, hv, _⟩
  · have h0 : ss.length = 0 := hn
    omega
  · exact ⟨g, cap, hv⟩
theorem sizes_set {ss : List ByteArray} {i : Nat} {x : ByteArray} (h : ∀ s ∈ ss, 1 ≤ s.size ∧ s.size ≤ 5) (hx : 1 ≤ x.size ∧ x.size ≤ 5) : ∀ s ∈ ss.set i x, 1 ≤ s.size ∧ s.size ≤ 5 := by
  intro s hs
  rcases List.mem_or_eq_of_mem_set hs with hs | rfl
  · exact h s hs
  · exact hx

set_option maxHeartbeats 4000000 in
theorem l91Some_any (w0 w : World) (post : List Seg) (g : Nat) (ao : Option Addr) (zs : List Int) (cap p : Nat) (rows cols : Nat) (hy : CellsY w0 ao zs) (h : St w0 w (SR g ao zs.length cap p :: post))
    (hp : p ≤ 800000) (hz : zs.length ≤ 1000000) (hr1 : 1 ≤ rows) (hr4 : rows ≤ 4) (hc1 : 1 ≤ cols) (hc4 : cols ≤ 4) :
    Calls Try.prog 23 #[.pointer (some ⟨g, 0, none⟩), .int .i64 rows, .int .i64 cols] w fun e w' => ∃ v T p', e = .returned v ∧ 1 ≤ T.length ∧ T.length ≤ 4 ∧ (∀ s ∈ T, 1 ≤ s.size ∧ s.size ≤ 5) ∧ p' ≤ p + 400 ∧ St w0 w' (SS v T :: SR g ao zs.length cap p' :: post) := by
  have ST0 := Lib.hid h
  have HY := Lib.hid hy
  clear h hy
  go_enter Try.func23, Try.ntmps23
  go_wp2_with fail
  refine (pick_st w0 _ [] post g ao zs cap p rows HY.out ST0.out (by omega) hz (by omega) (by omega)).mono ?_
  rintro e w2 ⟨r, rfl, r0, r1, _, st1⟩
  have r1 := r1 (by omega)
  have ST1 := Lib.hid st1
  clear st1 ST0
  go_wp2_with fail
  refine (pick_st w0 _ [] post g ao zs cap _ cols HY.out ST1.out (by omega) hz (by omega) (by omega)).mono ?_
  rintro e w3 ⟨c, rfl, c0, c1, _, st2⟩
  have c1 := c1 (by omega)
  have ST2 := Lib.hid st2
  clear st2 ST1
  go_wp2_with fail
  obtain ⟨n, hn⟩ : ∃ n : Nat, (1 : Int) + r = (n : Nat) := ⟨(1 + r).toNat, by omega⟩
  obtain ⟨m, hm⟩ : ∃ m : Nat, (1 : Int) + c = (m : Nat) := ⟨(1 + c).toNat, by omega⟩
  rw [hn, hm]
  have hn4 : 1 ≤ n ∧ n ≤ 4 := by omega
  have hm4 : 1 ≤ m ∧ m ≤ 4 := by omega
  clear hn hm r0 r1 c0 c1
  refine (l91Of_any w0 _ post g ao zs cap _ n m HY.out ST2.out (by omega) hz (by omega) (by omega)).mono ?_
  rintro e w4 ⟨v, T, p4, rfl, hT, hTm, hp4, st4⟩
  obtain ⟨gb, cb, rfl⟩ := SS_block (st4.own _ List.mem_cons_self) (by omega)
  have hsz : ∀ s ∈ T, 1 ≤ s.size ∧ s.size ≤ 5 := fun s hs => by have := hTm s hs; omega
  have ST4 := Lib.hid st4
  have HTM := Lib.hid hTm
  have HSZ := Lib.hid hsz
  have HT := Lib.hid hT
  clear st4 hTm hsz ST2
  subst hT
  go_wp2_with fail
  refine (pick_st w0 _ [_] post g ao zs cap p4 60 HY.out ST4.out (by omega) hz (by omega) (by omega)).mono ?_
  rintro e w5 ⟨q, rfl, q0, q1, _, st5⟩
  have q1 := q1 (by omega)
  have ST5 := Lib.hid st5
  clear ST4
  by_cases h0 : q = 0
  · subst h0
    obtain ⟨hc0, hf0⟩ := SS_at (st5.own _ List.mem_cons_self) (i := 0) (by omega)
    have hrow : (rowOf T 0).size = m := HTM.out _ (by simp [rowOf, show 0 < T.length by omega])
    generalize rowOf T 0 = s at hc0 hrow
    clear st5
    go_wp2
    go_ret
    have hX : 1 ≤ (s.extract 1 m ++ ⟨#[120]⟩).size ∧ (s.extract 1 m ++ ⟨#[120]⟩).size ≤ 5 := by
      have e : (⟨#[120]⟩ : ByteArray).size = 1 := rfl
      rw [ByteArray.size_append, e]
      rw [ByteArray.size_extract]
      omega
    have hst := SS_stored (ST5.out.own _ List.mem_cons_self) (0) (s.extract 1 m ++ ⟨#[120]⟩)
    exact ⟨_, T.set (0) (s.extract 1 m ++ ⟨#[120]⟩), _, rfl, by rw [List.length_set]; omega, by rw [List.length_set]; omega, sizes_set HSZ.out hX, (by omega : p4 + 1 ≤ p + 400), St.writeSeg [] (SR g ao zs.length cap (p4 + 1) :: post) _ _ ST5.out rfl hst.1 hst.2⟩
  · by_cases h1 : q = 1
    · subst h1
      obtain ⟨hc0, hf0⟩ := SS_at (st5.own _ List.mem_cons_self) (i := T.length - 1) (by omega)
      have hrow : (rowOf T (T.length - 1)).size = m := HTM.out _ (by simp [rowOf, show T.length - 1 < T.length by omega])
      generalize rowOf T (T.length - 1) = s at hc0 hrow
      clear st5
      go_wp2
      go_ret
      have hX : 1 ≤ (s ++ ⟨#[46]⟩).size ∧ (s ++ ⟨#[46]⟩).size ≤ 5 := by
        have e : (⟨#[46]⟩ : ByteArray).size = 1 := rfl
        rw [ByteArray.size_append, e]
        omega
      have hst := SS_stored (ST5.out.own _ List.mem_cons_self) (T.length - 1) (s ++ ⟨#[46]⟩)
      exact ⟨_, T.set (T.length - 1) (s ++ ⟨#[46]⟩), _, rfl, by rw [List.length_set]; omega, by rw [List.length_set]; omega, sizes_set HSZ.out hX, (by omega : p4 + 1 ≤ p + 400), St.writeSeg [] (SR g ao zs.length cap (p4 + 1) :: post) _ _ ST5.out rfl hst.1 hst.2⟩
    · clear st5
      go_wp2
      go_ret
      exact ⟨_, T, _, rfl, by omega, by omega, HSZ.out, by omega, ST5.out⟩



def DrawnG (w : World) (T : List ByteArray) (v : Value) (w' : World) : Prop := 1 ≤ T.length ∧ T.length ≤ 4 ∧ (∀ s ∈ T, 1 ≤ s.size ∧ s.size ≤ 5) ∧ St w w' [SS v T]

end Go.Proofs.Ytmlenaelijchjaa
