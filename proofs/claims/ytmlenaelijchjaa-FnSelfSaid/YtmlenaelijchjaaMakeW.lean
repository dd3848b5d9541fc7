/- Grids made of letters: plain facts. -/
/- Contract: the grid of letters that a closure tells (makeGrid), once for each closure. -/
import Derived.Test.YtmlenaelijchjaaEndL
import Derived.Test.YtmlenaelijchjaaCellW
import Derived.Laws.BytesArg
import Derived.Test.YtmlenaelijchjaaDrawGridL
import Derived.Test.YtmlenaelijchjaaStS
namespace Go.Proofs.Ytmlenaelijchjaa
open Go.RowKit
set_option linter.unusedVariables false
set_option linter.unusedSimpArgs false

def rowT (m : Nat) (f : Nat → Int) : ByteArray := strOfNums ((List.range m).map f)
/-- The rows of letters that a function tells. -/
def gridT (n m : Nat) (f : Nat → Nat → Int) : List ByteArray := (List.range n).map fun r => rowT m (f r)
theorem rowT_size (m : Nat) (f : Nat → Int) : (rowT m f).size = m := by simp [rowT, strOfNums_size]
theorem rowT_sgn {m k : Nat} {f : Nat → Int} (hk : k < m) (h : 0 ≤ f k ∧ f k < 256) : sgn (rowT m f) k = f k := by
  unfold sgn rowT
  rw [strOfNums_data]
  simp [hk, UInt8.toNat_ofNat']
  omega
theorem letB_bd {c : Int} (h : letB c = true) : 0 ≤ c ∧ c < 256 := by
  simp [letB] at h
  omega
theorem gridT_length (n m : Nat) (f : Nat → Nat → Int) : (gridT n m f).length = n := by simp [gridT]
theorem gridT_row {n m i : Nat} {f : Nat → Nat → Int} (hi : i < n) : rowOf (gridT n m f) i = rowT m (f i) := by simp [rowOf, gridT, hi]
theorem gridT_succ (n m : Nat) (f : Nat → Nat → Int) : gridT n m f ++ [rowT m (f n)] = gridT (n + 1) m f := by simp [gridT, List.range_succ]
theorem gridT_ok {n m : Nat} {f : Nat → Nat → Int} (hn1 : 1 ≤ n) (hn5 : n ≤ 5) (hm1 : 1 ≤ m) (hm5 : m ≤ 5) (h : ∀ i k, i < n → k < m → letB (f i k) = true) : gridB (gridT n m f) = true := by
  rw [gridB_iff, gridT_length, gridT_row (show 0 < n by omega), rowT_size]
  refine ⟨⟨hn1, hn5⟩, fun i hi => ?_, hm1, hm5⟩
  rw [gridT_row hi, rowB_iff, rowT_size]
  exact ⟨rfl, fun k hk => by rw [rowT_sgn hk (letB_bd (h i k hi hk))]; exact h i k hi hk⟩
/-- Grids with the same rows, columns and letters have the same beams. -/
structure Gr.Same (g g' : Gr) : Prop where
  n : g.n = g'.n
  m : g.m = g'.m
  lt : ∀ i k, i < g.n → k < g.m → g.lt i k = g'.lt i k
theorem gridT_gr {n m : Nat} {f : Nat → Nat → Int} (hn1 : 1 ≤ n) (h : ∀ i k, i < n → k < m → letB (f i k) = true) : Gr.Same (gr (gridT n m f)) ⟨n, m, f⟩ where
  n := gridT_length n m f
  m := by
    show (rowOf (gridT n m f) 0).size = m
    rw [gridT_row (show 0 < n by omega), rowT_size]
  lt := fun i k hi hk => by
    have hi : i < n := by
      have : (gr (gridT n m f)).n = n := gridT_length n m f
      omega
    have hk : k < m := by
      have : (gr (gridT n m f)).m = m := by
        show (rowOf (gridT n m f) 0).size = m
        rw [gridT_row (show 0 < n by omega), rowT_size]
      omega
    show sgn (rowOf (gridT n m f) i) k = f i k
    rw [gridT_row hi, rowT_sgn hk (letB_bd (h i k hi hk))]
theorem sgn_bd (s : ByteArray) (k : Nat) : 0 ≤ sgn s k ∧ sgn s k < 256 := by
  unfold sgn
  have := UInt8.toNat_lt (s.data.toList.getD k 0)
  omega
theorem byteArray_ext {s t : ByteArray} (h : s.data.toList = t.data.toList) : s = t := by
  cases s; cases t
  simp only [ByteArray.mk.injEq]
  exact Array.toList_inj.1 h
theorem rowT_of (s : ByteArray) : rowT s.size (sgn s) = s := by
  apply byteArray_ext
  unfold rowT
  rw [strOfNums_data]
  apply List.ext_getElem
  · rw [List.length_map, List.length_map, List.length_range, Array.length_toList]
    rfl
  · intro i h1 h2
    rw [List.getElem_map, List.getElem_map, List.getElem_range]
    unfold sgn
    rw [Int.toNat_natCast, List.getD_eq_getElem?_getD, List.getElem?_eq_getElem h2, Option.getD_some, UInt8.ofNat_toNat]
theorem rowT_congr {m : Nat} {f g : Nat → Int} (h : ∀ k, k < m → f k = g k) : rowT m f = rowT m g := by
  unfold rowT
  congr 1
  exact List.map_congr_left fun k hk => h k (List.mem_range.1 hk)
theorem gridT_congr {n m : Nat} {f g : Nat → Nat → Int} (h : ∀ i k, i < n → k < m → f i k = g i k) : gridT n m f = gridT n m g := by
  unfold gridT
  exact List.map_congr_left fun i hi => rowT_congr fun k hk => h i k (List.mem_range.1 hi) hk
theorem gridT_of {ss : List ByteArray} (hg : gridB ss = true) : gridT (gr ss).n (gr ss).m (gr ss).lt = ss := by
  apply List.ext_getElem
  · rw [gridT_length]; rfl
  · intro i h1 h2
    have e : (gridT (gr ss).n (gr ss).m (gr ss).lt)[i] = rowT (gr ss).m ((gr ss).lt i) := by simp [gridT]
    have hr : rowOf ss i = ss[i] := by simp [rowOf, h2]
    rw [e, ← gr_row hg h2, hr]
    show rowT ss[i].size (sgn (rowOf ss i)) = ss[i]
    rw [hr, rowT_of]
/-- The grid with another letter in a cell. -/
def Gr.putF (g : Gr) (cell : Nat) (c : Int) (i k : Nat) : Int := if i * g.m + k = cell then c else g.lt i k
def putS (ss : List ByteArray) (cell : Nat) (c : Int) : List ByteArray := gridT (gr ss).n (gr ss).m ((gr ss).putF cell c)
theorem putF_let {g : Gr} (hg : g.ok) {cell : Nat} {c : Int} (hc : letB c = true) {i k : Nat} (hi : i < g.n) (hk : k < g.m) : letB (g.putF cell c i k) = true := by
  unfold Gr.putF
  split
  · exact hc
  · exact hg.let' i k hi hk
theorem putS_ok {ss : List ByteArray} (hg : gridB ss = true) (cell : Nat) {c : Int} (hc : letB c = true) : gridB (putS ss cell c) = true := by
  have hok := gr_ok hg
  exact gridT_ok hok.n1 hok.n5 hok.m1 hok.m5 fun i k hi hk => putF_let hok hc hi hk
/-- A mirror exchanged. -/
def exch (c : Int) : Int := if c = 114 then 102 else if c = 102 then 114 else c
theorem exch_let {c : Int} (h : letB c = true) : letB (exch c) = true := by
  simp [letB] at h
  unfold exch
  rcases h with (h | h) | h <;> subst h <;> rfl

theorem SY_text {w : World} {base : Nat} {v : Value} {ys : List Int} (h : (SY v ys).own w base) :
    ∃ ao cap, v = .slice ao ys.length cap ∧ ∀ W, (∀ b, (∃ k, v.ownBlock = some k ∧ b = k) → W.heap[b]? = w.heap[b]?) → (convert 22 9 v).run Try.prog W = .ok (.string (strOfNums ys)) W := by
  rcases h.2 with ⟨hv, hn⟩ | ⟨g, cap, cur, hv, hb, hg, hnc, hcm, _⟩
  · have h0 : ys.length = 0 := hn
    have h1 : ys = [] := List.eq_nil_of_length_eq_zero h0
    subst h1
    have hv' : v = .slice none 0 0 := hv
    subst hv'
    exact ⟨none, 0, rfl, fun W _ => run_convert_bytes_nil W _ _ Try.underlying22 Try.underlying5 _ _ _ Try.underlying9⟩
  · have hv' : v = .slice (some ⟨g, 0, none⟩) ys.length cap := hv
    subst hv'
    refine ⟨_, cap, rfl, fun W hW => ?_⟩
    refine run_convert_bytes_arg W _ _ Try.underlying22 Try.underlying5 g 0 ys.length cap ys rfl (fun i hi => ?_) _ Try.underlying9
    have hc := World.ownsRow.cellAt h i (by show i < ys.length * 1; omega)
    rw [Nat.zero_add]
    refine (World.cell?_of_block (w := w) (hW g ⟨g, rfl, rfl⟩)).trans ?_
    rw [hc]
    simp [SY, hi]

set_option maxHeartbeats 2000000 in
theorem make_put_1 (w0 w : World) (post : Nat → List Seg) (n m : Nat) (f : Nat → Nat → Int) (b7 b4 b5 b3 : Nat) (h : St w0 w (post 0)) (hn : n ≤ 5) (hm : m ≤ 5)
    (hf : ∀ W pre r c, r < n → c < m → St w0 W (pre ++ post (r * m + c)) → Calls Try.prog 48 #[.int .i64 r, .int .i64 c, .pointer (some ⟨b7, 0, none⟩), .pointer (some ⟨b4, 0, none⟩), .pointer (some ⟨b5, 0, none⟩), .pointer (some ⟨b3, 0, none⟩)] W fun e W' => e = .returned (.int .u8 (f r c)) ∧ St w0 W' (pre ++ post (r * m + c + 1))) :
    Calls Try.prog 16 #[.int .i64 n, .int .i64 m, .func (.func 48) #[] #[.pointer (some ⟨b7, 0, none⟩), .pointer (some ⟨b4, 0, none⟩), .pointer (some ⟨b5, 0, none⟩), .pointer (some ⟨b3, 0, none⟩)]] w fun e w' => ∃ v, e = .returned v ∧ St w0 w' (SS v (gridT n m f) :: post (n * m)) := by
  have hs := h.size
  have st1 : St w0 (w.alloc (.cells #[] 9)) (SS (.slice (some ⟨w.heap.size, 0, none⟩) 0 0) [] :: post 0) :=
    h.addSeg (World.ownsRow_made w #[] 0 (Nat.le_refl _) (Nat.zero_le _) rfl) ((Below.refl _ _).alloc (Nat.le_refl _) (.cells #[] 9))
  have ST1 := Lib.hid st1
  have HF := Lib.hid hf
  clear st1 h hf
  go_enter Try.func16, Try.ntmps16
  go_wp2_with fail
  go_loopw [7, 13] (fun v7 v13 wr => ∃ (i : Nat) (a c : _), v13 = .int .i64 i ∧ i ≤ n ∧ v7 = .slice a i c ∧ St w0 wr (SS v7 (gridT i m f) :: post (i * m))) (fun _ v13 _ => n - (intOf v13).toNat)
  case atStart => exact ⟨0, _, _, rfl, Nat.zero_le _, rfl, by rw [Nat.zero_mul]; exact ST1.out⟩
  case round =>
    obtain ⟨i, a7, c7, rfl, hi, rfl, st⟩ := hrel
    have ST := Lib.hid st
    clear st ST1
    by_cases hlt : i < n
    · have st3 := ST.out.addSeg (s := SY (.slice (some ⟨wr.heap.size, 0, none⟩) 0 0) []) (World.ownsRow_made wr #[] 0 (Nat.le_refl _) (Nat.zero_le _) rfl) ((Below.refl _ _).alloc (Nat.le_refl _) (.cells #[] 5))
      have ST3 := Lib.hid st3
      clear st3
      go_wp2_with fail
      go_loopw [9, 18] (fun v9 v18 wr2 => ∃ (k : Nat) (a c : _), v18 = .int .i64 k ∧ k ≤ m ∧ v9 = .slice a k c ∧ St w0 wr2 (SY v9 ((List.range k).map (f i)) :: SS (.slice a7 i c7) (gridT i m f) :: post (i * m + k))) (fun _ v18 _ => m - (intOf v18).toNat)
      case atStart => exact ⟨0, _, _, rfl, Nat.zero_le _, rfl, ST3.out⟩
      case round =>
        obtain ⟨k, a9, c9, rfl, hk, rfl, st⟩ := hrel
        have ST4 := Lib.hid st
        clear st ST3
        by_cases hlt2 : k < m
        · go_wp2_with fail
          refine (HF.out _ [_, _] i k hlt hlt2 ST4.out).mono ?_
          rintro e w3 ⟨rfl, st5⟩
          have st6 := St.step st5 ((Below.refl _ _).alloc (Nat.le_refl _) (.cells #[.int .u8 (f i k)] 5))
          have ST6 := Lib.hid st6
          have HSU : Hid ((List.range k).map (f i) ++ [f i k] = (List.range (k + 1)).map (f i)) := by
            show _ = _
            simp [List.range_succ]
          have HLN : Hid (((List.range k).map (f i)).length = k) := by
            show _ = _
            simp
          clear st5 st6 ST4
          go_wp2_with (at_builtin; refine wpPushY _ rfl _ _ rfl w0.heap.size _ _ _ _ rfl (ST6.out.own _ List.mem_cons_self) rfl (cell_one_new _ _ _) (by rw [HLN.out]; omega) ?_; intro v' w4 hbec)
          have st7 := ST6.out.became0 hbec
          rw [HSU.out] at st7
          obtain ⟨a, c, hv, _⟩ := SY_shape (st7.own _ List.mem_cons_self)
          rw [List.length_map, List.length_range] at hv
          subst hv
          have ST7 := Lib.hid st7
          clear hbec st7
          go_wp2
          go_roundw
          case rel => exact ⟨k + 1, a, c, by go_num, by omega, rfl, ST7.out⟩
          case measure => simp [intOf]; omega
        · obtain rfl : k = m := by omega
          obtain ⟨a10, c10, hva, hcv⟩ := SY_text (ST4.out.own _ List.mem_cons_self)
          rw [List.length_map, List.length_range] at hva
          cases hva
          have hcv := hcv _ (fun _ _ => rfl)
          have st5 := ST4.out.step ((Below.refl _ _).alloc (Nat.le_refl _) (.cells #[.string (strOfNums ((List.range k).map (f i)))] 9))
          have ST5 := Lib.hid st5
          have HTT : Hid (gridT i k f ++ [strOfNums ((List.range k).map (f i))] = gridT (i + 1) k f) := gridT_succ i k f
          have HTL := Lib.hid (gridT_length i k f)
          clear st5 ST4
          generalize strOfNums ((List.range k).map (f i)) = t at *
          go_wp2_with (at_builtin; refine wpPushS _ rfl _ _ rfl w0.heap.size _ _ _ _ rfl (ST5.out.own _ (List.mem_cons_of_mem _ List.mem_cons_self)) rfl (cell_one_new _ _ _) (by rw [HTL.out]; omega) ?_; intro v' w4 hbec)
          have st7 := (ST5.out.became1 hbec).drop0
          rw [HTT.out] at st7
          obtain ⟨a, c, hv⟩ := st7.shapeS 0 rfl
          rw [gridT_length] at hv
          subst hv
          rw [show i * k + k = (i + 1) * k by rw [Nat.succ_mul]] at st7
          have ST7 := Lib.hid st7
          clear hbec st7
          go_wp2
          go_roundw
          case rel => exact ⟨i + 1, a, c, by go_num, by omega, rfl, ST7.out⟩
          case measure => simp [intOf]; omega
    · obtain rfl : i = n := by omega
      go_wp2
      go_ret
      exact ⟨_, rfl, ST.out⟩

set_option maxHeartbeats 2000000 in
theorem make_GridTurn_1 (w0 w : World) (post : Nat → List Seg) (n m : Nat) (f : Nat → Nat → Int) (b1 b2 : Nat) (h : St w0 w (post 0)) (hn : n ≤ 5) (hm : m ≤ 5)
    (hf : ∀ W pre r c, r < n → c < m → St w0 W (pre ++ post (r * m + c)) → Calls Try.prog 17 #[.int .i64 r, .int .i64 c, .pointer (some ⟨b1, 0, none⟩), .pointer (some ⟨b2, 0, none⟩)] W fun e W' => e = .returned (.int .u8 (f r c)) ∧ St w0 W' (pre ++ post (r * m + c + 1))) :
    Calls Try.prog 16 #[.int .i64 n, .int .i64 m, .func (.func 17) #[] #[.pointer (some ⟨b1, 0, none⟩), .pointer (some ⟨b2, 0, none⟩)]] w fun e w' => ∃ v, e = .returned v ∧ St w0 w' (SS v (gridT n m f) :: post (n * m)) := by
  have hs := h.size
  have st1 : St w0 (w.alloc (.cells #[] 9)) (SS (.slice (some ⟨w.heap.size, 0, none⟩) 0 0) [] :: post 0) :=
    h.addSeg (World.ownsRow_made w #[] 0 (Nat.le_refl _) (Nat.zero_le _) rfl) ((Below.refl _ _).alloc (Nat.le_refl _) (.cells #[] 9))
  have ST1 := Lib.hid st1
  have HF := Lib.hid hf
  clear st1 h hf
  go_enter Try.func16, Try.ntmps16
  go_wp2_with fail
  go_loopw [7, 13] (fun v7 v13 wr => ∃ (i : Nat) (a c : _), v13 = .int .i64 i ∧ i ≤ n ∧ v7 = .slice a i c ∧ St w0 wr (SS v7 (gridT i m f) :: post (i * m))) (fun _ v13 _ => n - (intOf v13).toNat)
  case atStart => exact ⟨0, _, _, rfl, Nat.zero_le _, rfl, by rw [Nat.zero_mul]; exact ST1.out⟩
  case round =>
    obtain ⟨i, a7, c7, rfl, hi, rfl, st⟩ := hrel
    have ST := Lib.hid st
    clear st ST1
    by_cases hlt : i < n
    · have st3 := ST.out.addSeg (s := SY (.slice (some ⟨wr.heap.size, 0, none⟩) 0 0) []) (World.ownsRow_made wr #[] 0 (Nat.le_refl _) (Nat.zero_le _) rfl) ((Below.refl _ _).alloc (Nat.le_refl _) (.cells #[] 5))
      have ST3 := Lib.hid st3
      clear st3
      go_wp2_with fail
      go_loopw [9, 18] (fun v9 v18 wr2 => ∃ (k : Nat) (a c : _), v18 = .int .i64 k ∧ k ≤ m ∧ v9 = .slice a k c ∧ St w0 wr2 (SY v9 ((List.range k).map (f i)) :: SS (.slice a7 i c7) (gridT i m f) :: post (i * m + k))) (fun _ v18 _ => m - (intOf v18).toNat)
      case atStart => exact ⟨0, _, _, rfl, Nat.zero_le _, rfl, ST3.out⟩
      case round =>
        obtain ⟨k, a9, c9, rfl, hk, rfl, st⟩ := hrel
        have ST4 := Lib.hid st
        clear st ST3
        by_cases hlt2 : k < m
        · go_wp2_with fail
          refine (HF.out _ [_, _] i k hlt hlt2 ST4.out).mono ?_
          rintro e w3 ⟨rfl, st5⟩
          have st6 := St.step st5 ((Below.refl _ _).alloc (Nat.le_refl _) (.cells #[.int .u8 (f i k)] 5))
          have ST6 := Lib.hid st6
          have HSU : Hid ((List.range k).map (f i) ++ [f i k] = (List.range (k + 1)).map (f i)) := by
            show _ = _
            simp [List.range_succ]
          have HLN : Hid (((List.range k).map (f i)).length = k) := by
            show _ = _
            simp
          clear st5 st6 ST4
          go_wp2_with (at_builtin; refine wpPushY _ rfl _ _ rfl w0.heap.size _ _ _ _ rfl (ST6.out.own _ List.mem_cons_self) rfl (cell_one_new _ _ _) (by rw [HLN.out]; omega) ?_; intro v' w4 hbec)
          have st7 := ST6.out.became0 hbec
          rw [HSU.out] at st7
          obtain ⟨a, c, hv, _⟩ := SY_shape (st7.own _ List.mem_cons_self)
          rw [List.length_map, List.length_range] at hv
          subst hv
          have ST7 := Lib.hid st7
          clear hbec st7
          go_wp2
          go_roundw
          case rel => exact ⟨k + 1, a, c, by go_num, by omega, rfl, ST7.out⟩
          case measure => simp [intOf]; omega
        · obtain rfl : k = m := by omega
          obtain ⟨a10, c10, hva, hcv⟩ := SY_text (ST4.out.own _ List.mem_cons_self)
          rw [List.length_map, List.length_range] at hva
          cases hva
          have hcv := hcv _ (fun _ _ => rfl)
          have st5 := ST4.out.step ((Below.refl _ _).alloc (Nat.le_refl _) (.cells #[.string (strOfNums ((List.range k).map (f i)))] 9))
          have ST5 := Lib.hid st5
          have HTT : Hid (gridT i k f ++ [strOfNums ((List.range k).map (f i))] = gridT (i + 1) k f) := gridT_succ i k f
          have HTL := Lib.hid (gridT_length i k f)
          clear st5 ST4
          generalize strOfNums ((List.range k).map (f i)) = t at *
          go_wp2_with (at_builtin; refine wpPushS _ rfl _ _ rfl w0.heap.size _ _ _ _ rfl (ST5.out.own _ (List.mem_cons_of_mem _ List.mem_cons_self)) rfl (cell_one_new _ _ _) (by rw [HTL.out]; omega) ?_; intro v' w4 hbec)
          have st7 := (ST5.out.became1 hbec).drop0
          rw [HTT.out] at st7
          obtain ⟨a, c, hv⟩ := st7.shapeS 0 rfl
          rw [gridT_length] at hv
          subst hv
          rw [show i * k + k = (i + 1) * k by rw [Nat.succ_mul]] at st7
          have ST7 := Lib.hid st7
          clear hbec st7
          go_wp2
          go_roundw
          case rel => exact ⟨i + 1, a, c, by go_num, by omega, rfl, ST7.out⟩
          case measure => simp [intOf]; omega
    · obtain rfl : i = n := by omega
      go_wp2
      go_ret
      exact ⟨_, rfl, ST.out⟩




end Go.Proofs.Ytmlenaelijchjaa
