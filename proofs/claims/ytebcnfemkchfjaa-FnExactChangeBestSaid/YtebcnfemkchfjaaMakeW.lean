/- Contract: the grid of letters that a closure tells (makeGrid), once for each closure. -/
import Derived.Test.YtebcnfemkchfjaaMakeL
import Derived.Test.YtebcnfemkchfjaaDrawGridL
import Derived.Test.YtebcnfemkchfjaaStS
namespace Go.Proofs.Ytebcnfemkchfjaa
open Go.RowKit
set_option linter.unusedVariables false
set_option linter.unusedSimpArgs false

theorem SY_text {w : World} {base : Nat} {v : Value} {ys : List Int} (h : (SY v ys).own w base) :
    ∃ ao cap, v = .slice ao ys.length cap ∧ ∀ W, (∀ b, (∃ k, v.ownBlock = some k ∧ b = k) → W.heap[b]? = w.heap[b]?) → (convert 29 9 v).run Try.prog W = .ok (.string (strOfNums ys)) W := by
  rcases h.2 with ⟨hv, hn⟩ | ⟨g, cap, cur, hv, hb, hg, hnc, hcm, _⟩
  · have h0 : ys.length = 0 := hn
    have h1 : ys = [] := List.eq_nil_of_length_eq_zero h0
    subst h1
    have hv' : v = .slice none 0 0 := hv
    subst hv'
    exact ⟨none, 0, rfl, fun W _ => run_convert_bytes_nil W _ _ Try.underlying29 Try.underlying5 _ _ _ Try.underlying9⟩
  · have hv' : v = .slice (some ⟨g, 0, none⟩) ys.length cap := hv
    subst hv'
    refine ⟨_, cap, rfl, fun W hW => ?_⟩
    refine run_convert_bytes_arg W _ _ Try.underlying29 Try.underlying5 g 0 ys.length cap ys rfl (fun i hi => ?_) _ Try.underlying9
    have hc := World.ownsRow.cellAt h i (by show i < ys.length * 1; omega)
    rw [Nat.zero_add]
    refine (World.cell?_of_block (w := w) (hW g ⟨g, rfl, rfl⟩)).trans ?_
    rw [hc]
    simp [SY, hi]

set_option maxHeartbeats 2000000 in
theorem make_put_1 (w0 w : World) (post : Nat → List Seg) (n m : Nat) (f : Nat → Nat → Int) (b7 b4 b5 b3 : Nat) (h : St w0 w (post 0)) (hn : n ≤ 5) (hm : m ≤ 5)
    (hf : ∀ W pre r c, r < n → c < m → St w0 W (pre ++ post (r * m + c)) → Calls Try.prog 90 #[.int .i64 r, .int .i64 c, .pointer (some ⟨b7, 0, none⟩), .pointer (some ⟨b4, 0, none⟩), .pointer (some ⟨b5, 0, none⟩), .pointer (some ⟨b3, 0, none⟩)] W fun e W' => e = .returned (.int .u8 (f r c)) ∧ St w0 W' (pre ++ post (r * m + c + 1))) :
    Calls Try.prog 64 #[.int .i64 n, .int .i64 m, .func (.func 90) #[] #[.pointer (some ⟨b7, 0, none⟩), .pointer (some ⟨b4, 0, none⟩), .pointer (some ⟨b5, 0, none⟩), .pointer (some ⟨b3, 0, none⟩)]] w fun e w' => ∃ v, e = .returned v ∧ St w0 w' (SS v (gridT n m f) :: post (n * m)) := by
  have hs := h.size
  have st1 : St w0 (w.alloc (.cells #[] 9)) (SS (.slice (some ⟨w.heap.size, 0, none⟩) 0 0) [] :: post 0) :=
    h.addSeg (World.ownsRow_made w #[] 0 (Nat.le_refl _) (Nat.zero_le _) rfl) ((Below.refl _ _).alloc (Nat.le_refl _) (.cells #[] 9))
  have ST1 := Lib.hid st1
  have HF := Lib.hid hf
  clear st1 h hf
  go_enter Try.func64, Try.ntmps64
  go_wp2_with fail
  go_loopw [7, 13] (fun v7 v13 wr => ∃ (i : Nat) (a c : _), v13 = .int .i64 i ∧ i ≤ n ∧ v7 = .slice a i c ∧ St w0 wr (SS v7 (gridT i m f) :: post (i * m))) (fun _ v13 _ => n - (intOf v13).toNat)
  case atStart => exact ⟨0, _, _, rfl, Nat.zero_le _, rfl, by rw [Nat.zero_mul]; exact ST1.out⟩
  case round =>
    obtain ⟨i, a7, c7, rfl, hi, rfl, st⟩ := hrel
    have ST := Lib.hid st
    clear st ST1
    by_cases hlt : i < n
    · have st3 := ST.out.addSeg (s := SY (.slice (some ⟨wr.heap.size, 0, none⟩) 0 0) []) (World.ownsRow_made wr #[] 0 (Nat.le_refl _) (Nat.zero_le _) rfl) ((Below.refl _ _).alloc (Nat.le_refl _) (.cells #[] 5))
      have ST3 := Lib.hid st3
      clear st3
      go_wp2_with fail
      go_loopw [9, 18] (fun v9 v18 wr2 => ∃ (k : Nat) (a c : _), v18 = .int .i64 k ∧ k ≤ m ∧ v9 = .slice a k c ∧ St w0 wr2 (SY v9 ((List.range k).map (f i)) :: SS (.slice a7 i c7) (gridT i m f) :: post (i * m + k))) (fun _ v18 _ => m - (intOf v18).toNat)
      case atStart => exact ⟨0, _, _, rfl, Nat.zero_le _, rfl, ST3.out⟩
      case round =>
        obtain ⟨k, a9, c9, rfl, hk, rfl, st⟩ := hrel
        have ST4 := Lib.hid st
        clear st ST3
        by_cases hlt2 : k < m
        · go_wp2_with fail
          refine (HF.out _ [_, _] i k hlt hlt2 ST4.out).mono ?_
          rintro e w3 ⟨rfl, st5⟩
          have st6 := St.step st5 ((Below.refl _ _).alloc (Nat.le_refl _) (.cells #[.int .u8 (f i k)] 5))
          have ST6 := Lib.hid st6
          have HSU : Hid ((List.range k).map (f i) ++ [f i k] = (List.range (k + 1)).map (f i)) := by
            show _ = _
            simp [List.range_succ]
          have HLN : Hid (((List.range k).map (f i)).length = k) := by
            show _ = _
            simp
          clear st5 st6 ST4
          go_wp2_with (at_builtin; refine wpPushY _ rfl _ _ rfl w0.heap.size _ _ _ _ rfl (ST6.out.own _ List.mem_cons_self) rfl (cell_one_new _ _ _) (by rw [HLN.out]; omega) ?_; intro v' w4 hbec)
          have st7 := ST6.out.became0 hbec
          rw [HSU.out] at st7
          obtain ⟨a, c, hv, _⟩ := SY_shape (st7.own _ List.mem_cons_self)
          rw [List.length_map, List.length_range] at hv
          subst hv
          have ST7 := Lib.hid st7
          clear hbec st7
          go_wp2
          go_roundw
          case rel => exact ⟨k + 1, a, c, by go_num, by omega, rfl, ST7.out⟩
          case measure => simp [intOf]; omega
        · obtain rfl : k = m := by omega
          obtain ⟨a10, c10, hva, hcv⟩ := SY_text (ST4.out.own _ List.mem_cons_self)
          rw [List.length_map, List.length_range] at hva
          cases hva
          have hcv := hcv _ (fun _ _ => rfl)
          have st5 := ST4.out.step ((Below.refl _ _).alloc (Nat.le_refl _) (.cells #[.string (strOfNums ((List.range k).map (f i)))] 9))
          have ST5 := Lib.hid st5
          have HTT : Hid (gridT i k f ++ [strOfNums ((List.range k).map (f i))] = gridT (i + 1) k f) := gridT_succ i k f
          have HTL := Lib.hid (gridT_length i k f)
          clear st5 ST4
          generalize strOfNums ((List.range k).map (f i)) = t at *
          go_wp2_with (at_builtin; refine wpPushS _ rfl _ _ rfl w0.heap.size _ _ _ _ rfl (ST5.out.own _ (List.mem_cons_of_mem _ List.mem_cons_self)) rfl (cell_one_new _ _ _) (by rw [HTL.out]; omega) ?_; intro v' w4 hbec)
          have st7 := (ST5.out.became1 hbec).drop0
          rw [HTT.out] at st7
          obtain ⟨a, c, hv⟩ := st7.shapeS 0 rfl
          rw [gridT_length] at hv
          subst hv
          rw [show i * k + k = (i + 1) * k by rw [Nat.succ_mul]] at st7
          have ST7 := Lib.hid st7
          clear hbec st7
          go_wp2
          go_roundw
          case rel => exact ⟨i + 1, a, c, by go_num, by omega, rfl, ST7.out⟩
          case measure => simp [intOf]; omega
    · obtain rfl : i = n := by omega
      go_wp2
      go_ret
      exact ⟨_, rfl, ST.out⟩

set_option maxHeartbeats 2000000 in
theorem make_GridTurn_1 (w0 w : World) (post : Nat → List Seg) (n m : Nat) (f : Nat → Nat → Int) (b1 b2 : Nat) (h : St w0 w (post 0)) (hn : n ≤ 5) (hm : m ≤ 5)
    (hf : ∀ W pre r c, r < n → c < m → St w0 W (pre ++ post (r * m + c)) → Calls Try.prog 65 #[.int .i64 r, .int .i64 c, .pointer (some ⟨b1, 0, none⟩), .pointer (some ⟨b2, 0, none⟩)] W fun e W' => e = .returned (.int .u8 (f r c)) ∧ St w0 W' (pre ++ post (r * m + c + 1))) :
    Calls Try.prog 64 #[.int .i64 n, .int .i64 m, .func (.func 65) #[] #[.pointer (some ⟨b1, 0, none⟩), .pointer (some ⟨b2, 0, none⟩)]] w fun e w' => ∃ v, e = .returned v ∧ St w0 w' (SS v (gridT n m f) :: post (n * m)) := by
  have hs := h.size
  have st1 : St w0 (w.alloc (.cells #[] 9)) (SS (.slice (some ⟨w.heap.size, 0, none⟩) 0 0) [] :: post 0) :=
    h.addSeg (World.ownsRow_made w #[] 0 (Nat.le_refl _) (Nat.zero_le _) rfl) ((Below.refl _ _).alloc (Nat.le_refl _) (.cells #[] 9))
  have ST1 := Lib.hid st1
  have HF := Lib.hid hf
  clear st1 h hf
  go_enter Try.func64, Try.ntmps64
  go_wp2_with fail
  go_loopw [7, 13] (fun v7 v13 wr => ∃ (i : Nat) (a c : _), v13 = .int .i64 i ∧ i ≤ n ∧ v7 = .slice a i c ∧ St w0 wr (SS v7 (gridT i m f) :: post (i * m))) (fun _ v13 _ => n - (intOf v13).toNat)
  case atStart => exact ⟨0, _, _, rfl, Nat.zero_le _, rfl, by rw [Nat.zero_mul]; exact ST1.out⟩
  case round =>
    obtain ⟨i, a7, c7, rfl, hi, rfl, st⟩ := hrel
    have ST := Lib.hid st
    clear st ST1
    by_cases hlt : i < n
    · have st3 := ST.out.addSeg (s := SY (.slice (some ⟨wr.heap.size, 0, none⟩) 0 0) []) (World.ownsRow_made wr #[] 0 (Nat.le_refl _) (Nat.zero_le _) rfl) ((Below.refl _ _).alloc (Nat.le_refl _) (.cells #[] 5))
      have ST3 := Lib.hid st3
      clear st3
      go_wp2_with fail
      go_loopw [9, 18] (fun v9 v18 wr2 => ∃ (k : Nat) (a c : _), v18 = .int .i64 k ∧ k ≤ m ∧ v9 = .slice a k c ∧ St w0 wr2 (SY v9 ((List.range k).map (f i)) :: SS (.slice a7 i c7) (gridT i m f) :: post (i * m + k))) (fun _ v18 _ => m - (intOf v18).toNat)
      case atStart => exact ⟨0, _, _, rfl, Nat.zero_le _, rfl, ST3.out⟩
      case round =>
        obtain ⟨k, a9, c9, rfl, hk, rfl, st⟩ := hrel
        have ST4 := Lib.hid st
        clear st ST3
        by_cases hlt2 : k < m
        · go_wp2_with fail
          refine (HF.out _ [_, _] i k hlt hlt2 ST4.out).mono ?_
          rintro e w3 ⟨rfl, st5⟩
          have st6 := St.step st5 ((Below.refl _ _).alloc (Nat.le_refl _) (.cells #[.int .u8 (f i k)] 5))
          have ST6 := Lib.hid st6
          have HSU : Hid ((List.range k).map (f i) ++ [f i k] = (List.range (k + 1)).map (f i)) := by
            show _ = _
            simp [List.range_succ]
          have HLN : Hid (((List.range k).map (f i)).length = k) := by
            show _ = _
            simp
          clear st5 st6 ST4
          go_wp2_with (at_builtin; refine wpPushY _ rfl _ _ rfl w0.heap.size _ _ _ _ rfl (ST6.out.own _ List.mem_cons_self) rfl (cell_one_new _ _ _) (by rw [HLN.out]; omega) ?_; intro v' w4 hbec)
          have st7 := ST6.out.became0 hbec
          rw [HSU.out] at st7
          obtain ⟨a, c, hv, _⟩ := SY_shape (st7.own _ List.mem_cons_self)
          rw [List.length_map, List.length_range] at hv
          subst hv
          have ST7 := Lib.hid st7
          clear hbec st7
          go_wp2
          go_roundw
          case rel => exact ⟨k + 1, a, c, by go_num, by omega, rfl, ST7.out⟩
          case measure => simp [intOf]; omega
        · obtain rfl : k = m := by omega
          obtain ⟨a10, c10, hva, hcv⟩ := SY_text (ST4.out.own _ List.mem_cons_self)
          rw [List.length_map, List.length_range] at hva
          cases hva
          have hcv := hcv _ (fun _ _ => rfl)
          have st5 := ST4.out.step ((Below.refl _ _).alloc (Nat.le_refl _) (.cells #[.string (strOfNums ((List.range k).map (f i)))] 9))
          have ST5 := Lib.hid st5
          have HTT : Hid (gridT i k f ++ [strOfNums ((List.range k).map (f i))] = gridT (i + 1) k f) := gridT_succ i k f
          have HTL := Lib.hid (gridT_length i k f)
          clear st5 ST4
          generalize strOfNums ((List.range k).map (f i)) = t at *
          go_wp2_with (at_builtin; refine wpPushS _ rfl _ _ rfl w0.heap.size _ _ _ _ rfl (ST5.out.own _ (List.mem_cons_of_mem _ List.mem_cons_self)) rfl (cell_one_new _ _ _) (by rw [HTL.out]; omega) ?_; intro v' w4 hbec)
          have st7 := (ST5.out.became1 hbec).drop0
          rw [HTT.out] at st7
          obtain ⟨a, c, hv⟩ := st7.shapeS 0 rfl
          rw [gridT_length] at hv
          subst hv
          rw [show i * k + k = (i + 1) * k by rw [Nat.succ_mul]] at st7
          have ST7 := Lib.hid st7
          clear hbec st7
          go_wp2
          go_roundw
          case rel => exact ⟨i + 1, a, c, by go_num, by omega, rfl, ST7.out⟩
          case measure => simp [intOf]; omega
    · obtain rfl : i = n := by omega
      go_wp2
      go_ret
      exact ⟨_, rfl, ST.out⟩




end Go.Proofs.Ytebcnfemkchfjaa
