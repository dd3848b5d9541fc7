/- Contracts: what the draws of two pairings draw (l91Of with letters). -/
import Derived.Test.YtoabhbdglgmcdaaDrawSomeW
import Derived.Test.YtoabhbdglgmcdaaDrawPairsW
import Derived.Test.YtoabhbdglgmcdaaCellW
namespace Go.Proofs.Ytoabhbdglgmcdaa
open Go.RowKit
set_option linter.unusedVariables false
set_option linter.unusedSimpArgs false

theorem SY_shapeG {w : World} {base : Nat} {v : Value} {ys : List Int} (h : (SY v ys).own w base) :
    ∃ ao cap, v = .slice ao ys.length cap ∧ ∀ W, (∀ b, (∃ k, v.ownBlock = some k ∧ b = k) → W.heap[b]? = w.heap[b]?) → (convert 34 9 v).run Try.prog W = .ok (.string (strOfNums ys)) W := by
  rcases h.2 with ⟨hv, hn⟩ | ⟨g, cap, cur, hv, hb, hg, hnc, hcm, _⟩
  · have h0 : ys.length = 0 := hn
    have h1 : ys = [] := List.eq_nil_of_length_eq_zero h0
    subst h1
    have hv' : v = .slice none 0 0 := hv
    subst hv'
    exact ⟨none, 0, rfl, fun W _ => run_convert_bytes_nil W _ _ Try.underlying34 Try.underlying5 _ _ _ Try.underlying9⟩
  · have hv' : v = .slice (some ⟨g, 0, none⟩) ys.length cap := hv
    subst hv'
    refine ⟨_, cap, rfl, fun W hW => ?_⟩
    refine run_convert_bytes_arg W _ _ Try.underlying34 Try.underlying5 g 0 ys.length cap ys rfl (fun i hi => ?_) _ Try.underlying9
    have hc := World.ownsRow.cellAt h i (by show i < ys.length * 1; omega)
    rw [Nat.zero_add]
    refine (World.cell?_of_block (w := w) (hW g ⟨g, rfl, rfl⟩)).trans ?_
    rw [hc]
    simp [SY, hi]
theorem let_snoc {ys : List Int} {z : Int} (h : ∀ y ∈ ys, letB y = true) (hz : letB z = true) : ∀ y ∈ ys ++ [z], letB y = true := by
  intro y hy
  rcases List.mem_append.1 hy with hy | hy
  · exact h y hy
  · rw [List.mem_singleton.1 hy]; exact hz
theorem rowB_nums {ys : List Int} (h : ∀ y ∈ ys, letB y = true) : rowB ys.length (strOfNums ys) = true := by
  refine rowB_iff.2 ⟨by simp [strOfNums, ByteArray.size], fun k hk => ?_⟩
  have hy := h _ (List.getElem_mem hk)
  have hb : 0 ≤ ys[k] ∧ ys[k] < 256 := by
    simp only [letB, Bool.or_eq_true, beq_iff_eq] at hy
    omega
  have : sgn (strOfNums ys) k = ys[k] := by
    simp [sgn, strOfNums, hk]
    omega
  rw [this]
  exact hy

def OfInG (w0 wr : World) (post : List Seg) (g : Nat) (ao : Option Addr) (zl cap P m : Nat) (T : List ByteArray) (vT v10 v11 : Value) : Prop :=
  ∃ (k p : Nat) (ys : List Int), v11 = .int .i64 k ∧ k ≤ m ∧ ys.length = k ∧ (∀ y ∈ ys, letB y = true) ∧ p ≤ P + 2 * k ∧ St w0 wr (SY v10 ys :: SS vT T :: SR g ao zl cap p :: post)
def OfOutG (w0 wr : World) (post : List Seg) (g : Nat) (ao : Option Addr) (zl cap P n m : Nat) (v7 v9 : Value) : Prop :=
  ∃ (i p : Nat) (T : List ByteArray), v9 = .int .i64 i ∧ i ≤ n ∧ T.length = i ∧ (∀ s ∈ T, rowB m s = true) ∧ p ≤ P + 2 * m * i ∧ St w0 wr (SS v7 T :: SR g ao zl cap p :: post)

set_option maxHeartbeats 8000000 in
theorem l91OfG_any (w0 w : World) (post : List Seg) (g : Nat) (ao : Option Addr) (zs : List Int) (cap p n m : Nat) (hy : CellsY w0 ao zs) (h : St w0 w (SR g ao zs.length cap p :: post))
    (hp : p ≤ 900000) (hz : zs.length ≤ 1000000) (hn : n ≤ 10) (hm : m ≤ 10) :
    Calls Try.prog 60 #[.pointer (some ⟨g, 0, none⟩), .int .i64 n, .int .i64 m] w fun e w' => ∃ v T p', e = .returned v ∧ T.length = n ∧ (∀ s ∈ T, rowB m s = true) ∧ p' ≤ p + 300 ∧ St w0 w' (SS v T :: SR g ao zs.length cap p' :: post) := by
  have hs := h.size
  have st1 : St w0 (w.alloc (.cells #[] 9)) (SS (.slice (some ⟨w.heap.size, 0, none⟩) 0 0) [] :: SR g ao zs.length cap p :: post) :=
    h.addSeg (World.ownsRow_made w #[] 0 (Nat.le_refl _) (Nat.zero_le _) rfl) ((Below.refl _ _).alloc (Nat.le_refl _) (.cells #[] 9))
  have ST1 := Lib.hid st1
  have HY := Lib.hid hy
  clear st1 h hy
  go_enter Try.func60, Try.ntmps60
  go_wp2_with fail
  refine (pick_st w0 _ [SS (.slice (some ⟨w.heap.size, 0, none⟩) 0 0) []] post g ao zs cap p 4 HY.out ST1.out (by omega) hz (by omega) (by omega)).mono ?_
  rintro e w2 ⟨kd, rfl, kd0, kd1, _, st2⟩
  have kd1 := kd1 (by omega)
  have ST2 := Lib.hid st2
  clear st2
  go_wp2_with fail
  go_loopw [7, 9] (fun v7 v9 wr => OfOutG w0 wr post g ao zs.length cap (p + 1) n m v7 v9) (fun _ v9 _ => n - (intOf v9).toNat)
  case atStart => exact ⟨0, p + 1, [], rfl, Nat.zero_le _, rfl, by simp, by omega, ST2.out⟩
  case round =>
    obtain ⟨i, p1, T, rfl, hi, hT, hTm, hp1, st⟩ := hrel
    obtain ⟨a7, c7, rfl, _⟩ := SS_shape (st.own _ List.mem_cons_self)
    have ST := Lib.hid st
    have HTM := Lib.hid hTm
    have HT := Lib.hid hT
    clear hTm hT ST1 ST2 st
    have hmi : 2 * m * i ≤ 2 * 10 * 10 := Nat.mul_le_mul (Nat.mul_le_mul_left _ hm) (by omega)
    by_cases hlt : i < n
    · have st3 := ST.out.addSeg (s := SY (.slice (some ⟨wr.heap.size, 0, none⟩) 0 0) []) (World.ownsRow_made wr #[] 0 (Nat.le_refl _) (Nat.zero_le _) rfl) ((Below.refl _ _).alloc (Nat.le_refl _) (.cells #[] 5))
      have ST3 := Lib.hid st3
      clear st3
      go_wp2_with fail
      go_loopw [10, 11, 12] (fun v10 v11 _ wr2 => OfInG w0 wr2 post g ao zs.length cap p1 m T (.slice a7 T.length c7) v10 v11) (fun _ v11 _ _ => m - (intOf v11).toNat)
      case atStart => exact ⟨0, p1, [], rfl, Nat.zero_le _, rfl, by simp, by omega, ST3.out⟩
      case round =>
        obtain ⟨k, p2, ys, rfl, hk, hys, hyl, hp2, st⟩ := hrel
        have HYL := Lib.hid hyl
        clear hyl
        have ST4 := Lib.hid st
        have HYS := Lib.hid hys
        clear st hys ST3
        by_cases hlt2 : k < m
        · go_wp2_with fail
          refine (pick_st w0 _ [_, _] post g ao zs cap p2 3 HY.out ST4.out (by omega) hz (by omega) (by omega)).mono ?_
          rintro e w3 ⟨r, rfl, r0, r1, _, st5⟩
          have r1 := r1 (by omega)
          have ST5 := Lib.hid st5
          have HSA := Lib.hid (fun c : Int => st5.step ((Below.refl _ _).alloc (Nat.le_refl _) (.cells #[.int .u8 c] 5)))
          clear st5 ST4
          have hpar : ((i : Int) + k) % 2 = 0 ∨ ((i : Int) + k) % 2 = 1 := by omega
          have hr : r = 0 ∨ r = 1 ∨ r = 2 := by omega
          have hkd : kd = 0 ∨ kd = 2 ∨ kd = 3 ∨ kd = 1 := by omega
          clear r0 r1 kd0 kd1
          rcases hkd with rfl | rfl | rfl | rfl
          · rcases hr with rfl | rfl | rfl <;> rcases hpar with hpar | hpar
            all_goals
              go_wp2_with (at_builtin; refine wpPushY _ rfl _ _ rfl w0.heap.size _ _ _ _ rfl ((HSA.out _).own _ List.mem_cons_self) rfl (cell_one_new _ _ _) (by rw [HYS.out]; omega) ?_; intro v' w4 hbec; have HS4 := Lib.hid ((HSA.out _).became0 hbec); clear hbec)
              go_roundw
              case rel => exact ⟨k + 1, _, _, by go_num, by omega, by rw [List.length_append, HYS.out]; rfl, (let_snoc HYL.out rfl), (by omega : p2 + 1 ≤ p1 + 2 * (k + 1)), HS4.out⟩
              case measure => simp [intOf]; omega
          · rcases hr with rfl | rfl | rfl
            all_goals
              go_wp2_with (at_builtin; refine wpPushY _ rfl _ _ rfl w0.heap.size _ _ _ _ rfl ((HSA.out _).own _ List.mem_cons_self) rfl (cell_one_new _ _ _) (by rw [HYS.out]; omega) ?_; intro v' w4 hbec; have HS4 := Lib.hid ((HSA.out _).became0 hbec); clear hbec)
              go_roundw
              case rel => exact ⟨k + 1, _, _, by go_num, by omega, by rw [List.length_append, HYS.out]; rfl, (let_snoc HYL.out rfl), (by omega : p2 + 1 ≤ p1 + 2 * (k + 1)), HS4.out⟩
              case measure => simp [intOf]; omega
          · rcases hr with rfl | rfl | rfl
            all_goals
              go_wp2_with (at_builtin; refine wpPushY _ rfl _ _ rfl w0.heap.size _ _ _ _ rfl ((HSA.out _).own _ List.mem_cons_self) rfl (cell_one_new _ _ _) (by rw [HYS.out]; omega) ?_; intro v' w4 hbec; have HS4 := Lib.hid ((HSA.out _).became0 hbec); clear hbec)
              go_roundw
              case rel => exact ⟨k + 1, _, _, by go_num, by omega, by rw [List.length_append, HYS.out]; rfl, (let_snoc HYL.out rfl), (by omega : p2 + 1 ≤ p1 + 2 * (k + 1)), HS4.out⟩
              case measure => simp [intOf]; omega
          · rcases hr with rfl | rfl | rfl
            all_goals
              go_wp2_with fail
              refine (pick_st w0 _ [_, _] post g ao zs cap _ 3 HY.out ST5.out (by omega) hz (by omega) (by omega)).mono ?_
              rintro e w5 ⟨r2, rfl, q0, q1, _, st6⟩
              have q1 := q1 (by omega)
              have HSA := Lib.hid (fun c : Int => st6.step ((Below.refl _ _).alloc (Nat.le_refl _) (.cells #[.int .u8 c] 5)))
              clear st6 ST5
              by_cases hq : 0 < r2
              · rcases hpar with hpar | hpar
                all_goals
                  go_wp2_with (at_builtin; refine wpPushY _ rfl _ _ rfl w0.heap.size _ _ _ _ rfl ((HSA.out _).own _ List.mem_cons_self) rfl (cell_one_new _ _ _) (by rw [HYS.out]; omega) ?_; intro v' w4 hbec; have HS4 := Lib.hid ((HSA.out _).became0 hbec); clear hbec)
                  go_roundw
                  case rel => exact ⟨k + 1, _, _, by go_num, by omega, by rw [List.length_append, HYS.out]; rfl, (let_snoc HYL.out rfl), (by omega : p2 + 2 ≤ p1 + 2 * (k + 1)), HS4.out⟩
                  case measure => simp [intOf]; omega
              · go_wp2_with (at_builtin; refine wpPushY _ rfl _ _ rfl w0.heap.size _ _ _ _ rfl ((HSA.out _).own _ List.mem_cons_self) rfl (cell_one_new _ _ _) (by rw [HYS.out]; omega) ?_; intro v' w4 hbec; have HS4 := Lib.hid ((HSA.out _).became0 hbec); clear hbec)
                go_roundw
                case rel => exact ⟨k + 1, _, _, by go_num, by omega, by rw [List.length_append, HYS.out]; rfl, (let_snoc HYL.out rfl), (by omega : p2 + 2 ≤ p1 + 2 * (k + 1)), HS4.out⟩
                case measure => simp [intOf]; omega
        · obtain rfl : k = m := by omega
          obtain ⟨a10, c10, rfl, hcv⟩ := SY_shapeG (ST4.out.own _ List.mem_cons_self)
          have ht := rowB_nums HYL.out
          generalize strOfNums ys = t at *
          have hcv := hcv _ (fun _ _ => rfl)
          have st5 := ST4.out.step ((Below.refl _ _).alloc (Nat.le_refl _) (.cells #[.string t] 9))
          have ST5 := Lib.hid st5
          have HTT := Lib.hid ht
          clear st5 ht ST4
          go_wp2_with (at_builtin; refine wpPushS _ rfl _ _ rfl w0.heap.size _ _ _ _ rfl (ST5.out.own _ (List.mem_cons_of_mem _ List.mem_cons_self)) rfl (cell_one_new _ _ _) (by rw [HT.out]; omega) ?_; intro v' w4 hbec; have HS4 := Lib.hid (ST5.out.became1 hbec).drop0; clear hbec)
          go_roundw
          case rel => exact ⟨i + 1, p2, T ++ [t], by go_num, by omega, by rw [List.length_append, HT.out]; rfl, (by
            intro s hs
            rcases List.mem_append.1 hs with hs | hs
            · exact HTM.out s hs
            · rw [List.mem_singleton.1 hs, ← HYS.out]; exact HTT.out), (by rw [Nat.mul_succ]; omega), HS4.out⟩
          case measure => simp [intOf]; omega
    · obtain rfl : i = n := by omega
      have hp3 : p1 ≤ p + 300 := by omega
      go_wp2
      go_ret
      exact ⟨_, T, p1, rfl, HT.out, HTM.out, hp3, ST.out⟩
theorem gridB_rows {T : List ByteArray} {n m : Nat} (hn1 : 1 ≤ n) (hn5 : n ≤ 5) (hm1 : 1 ≤ m) (hm5 : m ≤ 5) (hT : T.length = n) (h : ∀ s ∈ T, rowB m s = true) : gridB T = true ∧ (rowOf T 0).size = m := by
  have hr : ∀ i, i < T.length → rowB m (rowOf T i) = true := fun i hi => h _ (by
    unfold rowOf
    rw [List.getD_eq_getElem?_getD, List.getElem?_eq_getElem hi]
    exact List.getElem_mem hi)
  have h0 := (rowB_iff.1 (hr 0 (by omega))).1
  exact ⟨gridB_iff.2 ⟨by omega, by rw [h0]; exact hr, by omega, by omega⟩, h0⟩
end Go.Proofs.Ytoabhbdglgmcdaa
