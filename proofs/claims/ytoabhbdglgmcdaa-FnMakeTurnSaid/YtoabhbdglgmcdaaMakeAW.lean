/- Contracts: sizes that may be tried, equal lists, powers of three, the grid of a number, signs counted (fewOk, equal, l7Small, l7Equal, l7Given, l1Power, l1Of, l1Count). -/
import Derived.Test.YtoabhbdglgmcdaaGridOfW
import Derived.Test.YtoabhbdglgmcdaaOfW
import Derived.Test.YtoabhbdglgmcdaaHelpW
import Derived.Test.YtoabhbdglgmcdaaStS
import Derived.Deep.LoopGhost
namespace Go.Proofs.Ytoabhbdglgmcdaa
open Go.RowKit
set_option linter.unusedVariables false
set_option linter.unusedSimpArgs false

def smallB (n m : Int) : Bool := (inB n 1 5 && inB m 1 5) && decide (n * m ≤ 6)
theorem smallB_iff {n m : Int} : smallB n m = true ↔ 1 ≤ n ∧ n ≤ 5 ∧ 1 ≤ m ∧ m ≤ 5 ∧ n * m ≤ 6 := by
  simp only [smallB, Bool.and_eq_true, inB_iff, decide_eq_true_iff]
  constructor
  · rintro ⟨⟨h1, h2⟩, h3⟩
    exact ⟨h1.1, h1.2, h2.1, h2.2, h3⟩
  · rintro ⟨h1, h2, h3, h4, h5⟩
    exact ⟨⟨⟨h1, h2⟩, ⟨h3, h4⟩⟩, h5⟩
theorem prod_le {n m : Int} (h1 : 1 ≤ n) (h2 : n ≤ 5) (h3 : 1 ≤ m) (h4 : m ≤ 5) : 1 ≤ n * m ∧ n * m ≤ 25 := by
  obtain ⟨n, rfl⟩ := Int.eq_ofNat_of_zero_le (show 0 ≤ n by omega)
  obtain ⟨m, rfl⟩ := Int.eq_ofNat_of_zero_le (show 0 ≤ m by omega)
  have : 1 * 1 ≤ n * m := Nat.mul_le_mul (by omega) (by omega)
  have : n * m ≤ 5 * 5 := Nat.mul_le_mul (by omega) (by omega)
  rw [← Int.natCast_mul]
  omega
theorem fewOk_any (n m : Int) (w : World) :
    Calls Try.prog 52 #[.int .i64 n, .int .i64 m, .int .i64 6] w fun e w' => e = .returned (.bool (smallB n m)) ∧ w = w' := by
  cases h1 : (inB n 1 5 && inB m 1 5)
  · have HB := Lib.hid (show smallB n m = false by simp only [smallB]; rw [h1]; rfl)
    have H1 := Lib.hid h1
    clear h1
    go_enter Try.func52, Try.ntmps52
    go_wp2_with (go_at_call 61; refine (sidesOk_any _ _ _).mono ?_; rintro e w' ⟨rfl, rfl⟩; rw [H1.out])
    go_ret
    exact ⟨ret_bool (by rw [HB.out]), rfl⟩
  · have HB := Lib.hid (show smallB n m = decide (n * m ≤ 6) by simp only [smallB]; rw [h1]; rfl)
    have h := Bool.and_eq_true_iff.1 h1
    have hn := inB_iff.1 h.1
    have hmm := inB_iff.1 h.2
    have hp := prod_le hn.1 hn.2 hmm.1 hmm.2
    have H1 := Lib.hid h1
    clear h h1
    go_enter Try.func52, Try.ntmps52
    go_wp2_with (go_at_call 61; refine (sidesOk_any _ _ _).mono ?_; rintro e w' ⟨rfl, rfl⟩; rw [H1.out])
    go_ret
    exact ⟨ret_bool (by rw [HB.out]), rfl⟩
theorem l7Small_any (n m : Int) (w : World) :
    Calls Try.prog 48 #[.int .i64 n, .int .i64 m] w fun e w' => e = .returned (.bool (smallB n m)) ∧ w = w' := by
  cases h1 : inB n 1 5
  · have HB := Lib.hid (show smallB n m = false by simp only [smallB]; rw [h1]; rfl)
    go_enter Try.func48, Try.ntmps48
    go_wp2_with (go_at_call 67; refine (l6In_any _ _ _ _).mono ?_; rintro e w' ⟨rfl, rfl⟩)
    go_ret
    exact ⟨ret_bool (by rw [HB.out]), rfl⟩
  · cases h2 : inB m 1 5
    · have HB := Lib.hid (show smallB n m = false by simp only [smallB]; rw [h1, h2]; rfl)
      go_enter Try.func48, Try.ntmps48
      go_wp2_with (go_at_call 67; refine (l6In_any _ _ _ _).mono ?_; rintro e w' ⟨rfl, rfl⟩)
      go_ret
      exact ⟨ret_bool (by rw [HB.out]), rfl⟩
    · have HB := Lib.hid (show smallB n m = decide (n * m ≤ 6) by simp only [smallB]; rw [h1, h2]; rfl)
      have hn := inB_iff.1 h1
      have hmm := inB_iff.1 h2
      have hp := prod_le hn.1 hn.2 hmm.1 hmm.2
      go_enter Try.func48, Try.ntmps48
      go_wp2_with (go_at_call 67; refine (l6In_any _ _ _ _).mono ?_; rintro e w' ⟨rfl, rfl⟩)
      go_ret
      exact ⟨ret_bool (by rw [HB.out]), rfl⟩
/-- Sizes and a pairing that may be tried. -/
def givenB (n m : Int) (xs : List Int) : Bool := smallB n m && ofB n m xs
theorem l7Given_any (n m : Int) (ao : Option Addr) (cap : Nat) (xs : List Int) (w : World) (hx : CellsI w ao xs) (hm : xs.length ≤ maxLen) :
    Calls Try.prog 31 #[.int .i64 n, .int .i64 m, .slice ao xs.length cap] w fun e w' => e = .returned (.bool (givenB n m xs)) ∧ w = w' := by
  cases h1 : smallB n m
  · have HB := Lib.hid (show givenB n m xs = false by simp only [givenB]; rw [h1]; rfl)
    have H1 := Lib.hid h1
    clear h1
    go_enter Try.func31, Try.ntmps31
    go_wp2_with (go_at_call 48; refine (l7Small_any _ _ _).mono ?_; rintro e w' ⟨rfl, rfl⟩; rw [H1.out])
    go_ret
    exact ⟨ret_bool (by rw [HB.out]), rfl⟩
  · have HB := Lib.hid (show givenB n m xs = ofB n m xs by simp only [givenB]; rw [h1]; rfl)
    have H1 := Lib.hid h1
    clear h1
    go_enter Try.func31, Try.ntmps31
    go_wp2_with (first | (go_at_call 48; refine (l7Small_any _ _ _).mono ?_; rintro e w' ⟨rfl, rfl⟩; rw [H1.out]) | (go_at_call 49; refine (l6jOf_any _ _ _ _ _ _ hx hm).mono ?_; rintro e w' ⟨rfl, rfl⟩))
    go_ret
    exact ⟨ret_bool (by rw [HB.out]), rfl⟩

set_option maxHeartbeats 1000000 in
theorem equal_any (ao bo : Option Addr) (ca cb : Nat) (xs ys : List Int) (w : World) (hx : CellsI w ao xs) (hy : CellsI w bo ys) (hl : xs.length = ys.length) (hm : xs.length ≤ 1000) :
    Calls Try.prog 55 #[.slice ao xs.length ca, .slice bo ys.length cb] w fun e w' => e = .returned (.bool (eqL xs ys)) ∧ Dr w w' := by
  have HL := Lib.hid hl
  clear hl
  go_enter Try.func55, Try.ntmps55
  go_wp2_with fail
  go_loopw [8] (fun i wr => ∃ k : Nat, k ≤ xs.length ∧ i = .int .i64 k ∧ Hid (∀ j, j < k → xs.getD j 0 = ys.getD j 0) ∧ Dr w wr) (fun i _ => xs.length - (intOf i).toNat)
  case atStart => exact ⟨0, Nat.zero_le _, rfl, fun j h => by omega, Dr.refl _⟩
  case round =>
    obtain ⟨k, hk, rfl, ho, n, rfl⟩ := hrel
    by_cases hlt : k < xs.length
    · obtain ⟨b, off, rfl, hc, _⟩ := hx.at hlt
      have hlt2 : k < ys.length := by rw [← HL.out]; exact hlt
      obtain ⟨b2, off2, rfl, hc2, _⟩ := hy.at hlt2
      have hck := hc k hlt
      have hck2 := hc2 k hlt2
      have hd : xs.getD k 0 ≠ ys.getD k 0 → eqL xs ys = false := eqL_no k
      have hs : xs.getD k 0 = ys.getD k 0 → ∀ j, j < k + 1 → xs.getD j 0 = ys.getD j 0 := fun e j hj => by
        by_cases e2 : j = k
        · rw [e2]; exact e
        · exact ho j (by omega)
      generalize xs.getD k 0 = x at hck hd hs
      generalize ys.getD k 0 = y at hck2 hd hs
      clear hx hy hc hc2 ho
      cases h : (x != y)
      · have HS := Lib.hid (hs (by simpa using h))
        clear hd hs
        go_wp2
        go_quiet (fail)
        go_wp2
        go_roundw
        case rel => exact ⟨k + 1, by omega, by go_num, HS.out, _, rfl⟩
        case measure => simp [intOf]; omega
      · have HS := Lib.hid (hd (by simpa using h))
        clear hd hs
        go_wp2
        go_quiet (fail)
        go_wp2
        go_ret
        exact ⟨ret_bool (by rw [HS.out]), Dr.two _ _ _⟩
    · obtain rfl : k = xs.length := by omega
      have HS := Lib.hid (eqL_all HL.out ho)
      have e1 : ((xs.length : Int) == (ys.length : Int)) = true := by rw [HL.out]; exact beq_self_eq_true _
      clear ho hx hy
      go_wp2
      go_ret
      exact ⟨ret_bool (by rw [HS.out]), _, rfl⟩
set_option maxHeartbeats 1000000 in
theorem l7Equal_any (ao bo : Option Addr) (ca cb : Nat) (xs ys : List Int) (w : World) (hx : CellsI w ao xs) (hy : CellsI w bo ys) (hl : xs.length = ys.length) (hm : xs.length ≤ 1000) :
    Calls Try.prog 33 #[.slice ao xs.length ca, .slice bo ys.length cb] w fun e w' => e = .returned (.bool (eqL xs ys)) ∧ Dr w w' := by
  have HL := Lib.hid hl
  clear hl
  go_enter Try.func33, Try.ntmps33
  go_wp2_with fail
  go_loopw [5] (fun i wr => ∃ k : Nat, k ≤ xs.length ∧ i = .int .i64 k ∧ Hid (∀ j, j < k → xs.getD j 0 = ys.getD j 0) ∧ Dr w wr) (fun i _ => xs.length - (intOf i).toNat)
  case atStart => exact ⟨0, Nat.zero_le _, rfl, fun j h => by omega, Dr.refl _⟩
  case round =>
    obtain ⟨k, hk, rfl, ho, n, rfl⟩ := hrel
    by_cases hlt : k < xs.length
    · obtain ⟨b, off, rfl, hc, _⟩ := hx.at hlt
      have hlt2 : k < ys.length := by rw [← HL.out]; exact hlt
      obtain ⟨b2, off2, rfl, hc2, _⟩ := hy.at hlt2
      have hck := hc k hlt
      have hck2 := hc2 k hlt2
      have hd : xs.getD k 0 ≠ ys.getD k 0 → eqL xs ys = false := eqL_no k
      have hs : xs.getD k 0 = ys.getD k 0 → ∀ j, j < k + 1 → xs.getD j 0 = ys.getD j 0 := fun e j hj => by
        by_cases e2 : j = k
        · rw [e2]; exact e
        · exact ho j (by omega)
      generalize xs.getD k 0 = x at hck hd hs
      generalize ys.getD k 0 = y at hck2 hd hs
      clear hx hy hc hc2 ho
      cases h : (x != y)
      · have HS := Lib.hid (hs (by simpa using h))
        clear hd hs
        go_wp2
        go_quiet (fail)
        go_wp2
        go_roundw
        case rel => exact ⟨k + 1, by omega, by go_num, HS.out, _, rfl⟩
        case measure => simp [intOf]; omega
      · have HS := Lib.hid (hd (by simpa using h))
        clear hd hs
        go_wp2
        go_quiet (fail)
        go_wp2
        go_ret
        exact ⟨ret_bool (by rw [HS.out]), Dr.two _ _ _⟩
    · obtain rfl : k = xs.length := by omega
      have HS := Lib.hid (eqL_all HL.out ho)
      have e1 : ((xs.length : Int) == (ys.length : Int)) = true := by rw [HL.out]; exact beq_self_eq_true _
      clear ho hx hy
      go_wp2
      go_ret
      exact ⟨ret_bool (by rw [HS.out]), _, rfl⟩

set_option maxRecDepth 100000 in
theorem l1Power_any (k : Nat) (hk : k ≤ 25) (w : World) : Calls Try.prog 32 #[.int .i64 k] w fun e w' => e = .returned (.int .i64 ((3 ^ k : Nat) : Int)) ∧ w = w' := by
  have HP : Hid (∀ i, 3 ^ (i + 1) = 3 ^ i * 3) := fun i => Nat.pow_succ 3 i
  have HM : Hid (∀ i, i ≤ 25 → 3 ^ i ≤ 847288609443) := fun i hi => Nat.le_trans (Nat.pow_le_pow_right (by decide) hi) (by decide)
  go_enter Try.func32, Try.ntmps32
  go_wp2_with fail
  go_loopw [3, 4] (fun v3 v4 wr => ∃ i : Nat, v3 = .int .i64 ((3 ^ i : Nat) : Int) ∧ v4 = .int .i64 i ∧ i ≤ k ∧ w = wr) (fun _ v4 _ => k - (intOf v4).toNat)
  case atStart => exact ⟨0, rfl, rfl, Nat.zero_le _, rfl⟩
  case round =>
    obtain ⟨i, rfl, rfl, hi, rfl⟩ := hrel
    by_cases hlt : i < k
    · have h1 := HP.out i
      have h2 := HM.out i (by omega)
      have h3 : ((3 ^ (i + 1) : Nat) : Int) = ((3 ^ i : Nat) : Int) * 3 := by rw [h1]; exact Int.natCast_mul _ _
      have H3 := Lib.hid h3
      have h4 : (0 : Int) ≤ ((3 ^ i : Nat) : Int) := Int.natCast_nonneg _
      have h5 : ((3 ^ i : Nat) : Int) ≤ 847288609443 := Int.ofNat_le.2 h2
      clear h1 h2 h3
      generalize ((3 ^ i : Nat) : Int) = q at *
      go_wp2
      go_roundw
      case rel => exact ⟨i + 1, by rw [H3.out], by go_num, by omega, by first | rfl | trivial⟩
      case measure => simp [intOf]; omega
    · obtain rfl : i = k := by omega
      generalize hq : ((3 ^ i : Nat) : Int) = q at *
      have HQ := Lib.hid hq
      clear hq
      go_wp2
      go_ret
      exact ⟨by rw [HQ.out]; rfl, rfl⟩
/-- The grid of a number, from the front. -/
theorem dgl_text (d : Nat) (h : d < 3) : (((ByteArray.mk #[46, 114, 102]).data.toList.getD d 0).toNat : Int) = dgl d := by
  have : d = 0 ∨ d = 1 ∨ d = 2 := by omega
  rcases this with rfl | rfl | rfl <;> rfl
set_option maxRecDepth 100000 in
set_option maxHeartbeats 4000000 in
theorem l1Of_any (n m k : Nat) (hn : n ≤ 5) (hm : m ≤ 5) (hk : k ≤ 847288609443) (w : World) :
    Calls Try.prog 35 #[.int .i64 n, .int .i64 m, .int .i64 k] w fun e w' => ∃ v, e = .returned v ∧ St w w' [SS v (gridT n m (ofF k m))] := by
  have st1 : St w (w.alloc (.cells #[] 9)) [SS (.slice (some ⟨w.heap.size, 0, none⟩) 0 0) []] :=
    (St.init w).addSeg (World.ownsRow_made w #[] 0 (Nat.le_refl _) (Nat.zero_le _) rfl) ((Below.refl _ _).alloc (Nat.le_refl _) (.cells #[] 9))
  have ST1 := Lib.hid st1
  have HKQ : Hid (∀ j, k / 3 ^ j ≤ 847288609443) := fun j => Nat.le_trans (Nat.div_le_self _ _) hk
  have HKS : Hid (∀ j, k / 3 ^ j / 3 = k / 3 ^ (j + 1)) := fun j => by rw [Nat.div_div_eq_div_mul, ← Nat.pow_succ]
  have hk0 : k / 3 ^ 0 = k := by simp
  have HK0 := Lib.hid hk0
  clear st1 hk0
  go_enter Try.func35, Try.ntmps35
  go_wp2_with fail
  go_loopw [2, 7, 8] (fun v2 v7 v8 wr => ∃ (i : Nat) (a c : _), v8 = .int .i64 i ∧ i ≤ n ∧ v2 = .int .i64 ((k / 3 ^ (i * m) : Nat) : Int) ∧ v7 = .slice a i c ∧ St w wr [SS v7 (gridT i m (ofF k m))]) (fun _ _ v8 _ => n - (intOf v8).toNat)
  case atStart => exact ⟨0, _, _, rfl, Nat.zero_le _, by rw [Nat.zero_mul, HK0.out], rfl, ST1.out⟩
  case round =>
    obtain ⟨i, a7, c7, rfl, hi, rfl, rfl, st⟩ := hrel
    have ST := Lib.hid st
    clear st ST1
    by_cases hlt : i < n
    · have st3 := ST.out.addSeg (s := SY (.slice (some ⟨wr.heap.size, 0, none⟩) 0 0) []) (World.ownsRow_made wr #[] 0 (Nat.le_refl _) (Nat.zero_le _) rfl) ((Below.refl _ _).alloc (Nat.le_refl _) (.cells #[] 5))
      have ST3 := Lib.hid st3
      clear st3
      generalize hq0 : ((k / 3 ^ (i * m) : Nat) : Int) = q0 at *
      have HQ0 := Lib.hid hq0
      clear hq0
      go_wp2_with fail
      go_loopw [2, 9, 10] (fun v2 v9 v10 wr2 => ∃ (j : Nat) (a c : _), v10 = .int .i64 j ∧ j ≤ m ∧ v2 = .int .i64 ((k / 3 ^ (i * m + j) : Nat) : Int) ∧ v9 = .slice a j c ∧ St w wr2 [SY v9 ((List.range j).map (ofF k m i)), SS (.slice a7 i c7) (gridT i m (ofF k m))]) (fun _ _ v10 _ => m - (intOf v10).toNat)
      case atStart => exact ⟨0, _, _, rfl, Nat.zero_le _, by rw [Nat.add_zero, HQ0.out], rfl, ST3.out⟩
      case round =>
        obtain ⟨j, a9, c9, rfl, hj, rfl, rfl, st⟩ := hrel
        have ST4 := Lib.hid st
        clear st ST3
        by_cases hlt2 : j < m
        · have hle := HKQ.out (i * m + j)
          have HSU : Hid ((List.range j).map (ofF k m i) ++ [ofF k m i j] = (List.range (j + 1)).map (ofF k m i)) := by
            show _ = _
            simp [List.range_succ]
          have HLN : Hid (((List.range j).map (ofF k m i)).length = j) := by
            show _ = _
            simp
          have HOF : Hid (ofF k m i j = dgl (k / 3 ^ (i * m + j) % 3)) := rfl
          have HNX := Lib.hid (HKS.out (i * m + j))
          generalize k / 3 ^ (i * m + j) = q at *
          have hd : q % 3 = 0 ∨ q % 3 = 1 ∨ q % 3 = 2 := by omega
          have e3 : (q : Int) / 3 = ((q / 3 : Nat) : Int) := by omega
          have E3 := Lib.hid e3
          clear e3
          rcases hd with hd | hd | hd
          all_goals
            have hd2 : (q : Int) % 3 = ((q % 3 : Nat) : Int) := by omega
            rw [hd] at hd2 HOF
            have st6 := ST4.out.step ((Below.refl _ _).alloc (Nat.le_refl _) (.cells #[.int .u8 (ofF k m i j)] 5))
            rw [HOF.out] at st6 HSU
            have ST6 := Lib.hid st6
            clear hd st6
            go_wp2_with (at_builtin; refine wpPushY _ rfl _ _ rfl w.heap.size _ _ _ _ rfl (ST6.out.own _ List.mem_cons_self) rfl (cell_one_new _ _ _) (by rw [HLN.out]; omega) ?_; intro v' w4 hbec)
            have st7 : St w w4 [SY v' ((List.range (j + 1)).map (ofF k m i)), SS (.slice a7 i c7) (gridT i m (ofF k m))] := by
              rw [← HSU.out]
              exact ST6.out.became0 hbec
            obtain ⟨a, c, hv, _⟩ := SY_shape (st7.own _ List.mem_cons_self)
            rw [List.length_map, List.length_range] at hv
            subst hv
            have ST7 := Lib.hid st7
            clear hbec st7
            go_wp2
            go_roundw
            case rel => exact ⟨j + 1, a, c, by go_num, by omega, by rw [E3.out, HNX.out]; rfl, rfl, ST7.out⟩
            case measure => simp [intOf]; omega
        · obtain rfl : j = m := by omega
          obtain ⟨a10, c10, hva, hcv⟩ := SY_text (ST4.out.own _ List.mem_cons_self)
          rw [List.length_map, List.length_range] at hva
          cases hva
          have hcv := hcv _ (fun _ _ => rfl)
          have st5 := ST4.out.step ((Below.refl _ _).alloc (Nat.le_refl _) (.cells #[.string (strOfNums ((List.range j).map (ofF k j i)))] 9))
          have ST5 := Lib.hid st5
          have HTT : Hid (gridT i j (ofF k j) ++ [strOfNums ((List.range j).map (ofF k j i))] = gridT (i + 1) j (ofF k j)) := gridT_succ i j (ofF k j)
          have HTL := Lib.hid (gridT_length i j (ofF k j))
          have HQ1 : Hid (k / 3 ^ (i * j + j) = k / 3 ^ ((i + 1) * j)) := by
            show _ = _
            rw [Nat.succ_mul]
          clear st5 ST4
          generalize strOfNums ((List.range j).map (ofF k j i)) = t at *
          go_wp2_with (at_builtin; refine wpPushS _ rfl _ _ rfl w.heap.size _ _ _ _ rfl (ST5.out.own _ (List.mem_cons_of_mem _ List.mem_cons_self)) rfl (cell_one_new _ _ _) (by rw [HTL.out]; omega) ?_; intro v' w4 hbec)
          have st7 := (ST5.out.became1 hbec).drop0
          rw [HTT.out] at st7
          obtain ⟨a, c, hv⟩ := st7.shapeS 0 rfl
          rw [gridT_length] at hv
          subst hv
          have ST7 := Lib.hid st7
          clear hbec st7
          go_wp2
          go_roundw
          case rel => exact ⟨i + 1, a, c, by go_num, by omega, by rw [← HQ1.out]; simp, rfl, ST7.out⟩
          case measure => simp [intOf]; omega
    · obtain rfl : i = n := by omega
      go_wp2
      go_ret
      exact ⟨_, rfl, ST.out⟩
end Go.Proofs.Ytoabhbdglgmcdaa
