/- Contracts: the pairing of empty grids (JoinUnit, both). -/
import Derived.Test.YtgbfhpjdhacfmaaPlaceW
import Derived.Test.YtgbfhpjdhacfmaaFill
import Derived.Test.YtgbfhpjdhacfmaaState
import Derived.Test.YtgbfhpjdhacfmaaTurnW
namespace Go.Proofs.Ytgbfhpjdhacfmaa
open Go.RowKit
set_option linter.unusedVariables false

def unitAt (n m : Int) (p : Nat) : Int := portI n m ((sideI n m p + 2) % 4) (atI n m p)
def unitB (n m : Int) : Bool := inB n 1 5 && inB m 1 5
def unitL (n m : Int) : List Int := if unitB n m then fillN (unitAt n m) (2 * n.toNat + 2 * m.toNat) else []
theorem at_bound (n m : Int) (p : Nat) (hn : 1 ≤ n) (hn2 : n ≤ 5) (hm : 1 ≤ m) (hm2 : m ≤ 5) (hp : p < 2 * n + 2 * m) : 0 ≤ atI n m p ∧ atI n m p ≤ 20 ∧ 0 ≤ sideI n m p ∧ sideI n m p ≤ 3 := by
  unfold atI sideI
  repeat' split
  all_goals omega

theorem unitL_le (n m : Int) : (unitL n m).length ≤ 1048576 := by
  unfold unitL
  split
  · rename_i h
    simp only [unitB, Bool.and_eq_true, inB_iff] at h
    rw [fillN_length]; omega
  · simp

theorem iJoinUnit_any (n m : Int) (w : World) :
    Calls Try.prog 26 #[.int .i64 n, .int .i64 m] w (GivesI w.heap.size w (unitL n m) (unitB n m)) := by
  cases hb : unitB n m
  · have hL : unitL n m = [] := by simp [unitL, hb]
    rw [hL]
    have hb' : (inB n 1 5 && inB m 1 5) = false := hb
    clear hL
    go_enter Try.func26, Try.ntmps26
    go_wp2_with (go_at_call 49; refine (sidesOk_any _ _ _).mono ?_; rintro e w' ⟨rfl, rfl⟩; rw [hb'])
    go_ret2
    exact gives_empty w false
  · have hb' : (inB n 1 5 && inB m 1 5) = true := hb
    have hnm := Bool.and_eq_true_iff.1 hb'
    have hn := inB_iff.1 hnm.1
    have hm := inB_iff.1 hnm.2
    obtain ⟨n, rfl⟩ := Int.eq_ofNat_of_zero_le (show 0 ≤ n by omega)
    obtain ⟨m, rfl⟩ := Int.eq_ofNat_of_zero_le (show 0 ≤ m by omega)
    have hL : unitL n m = fillN (unitAt n m) (2 * n + 2 * m) := by simp [unitL, hb]
    have hn1 : 1 ≤ n := by omega
    have hn2 : n ≤ 5 := by omega
    have hm1 : 1 ≤ m := by omega
    have hm2 : m ≤ 5 := by omega
    rw [hL]
    clear hL hb hnm hn hm
    obtain ⟨N, hN⟩ : ∃ N, N = 2 * n + 2 * m := ⟨_, rfl⟩
    rw [← hN]
    have HN := Lib.hid hN
    clear hN
    go_enter Try.func26, Try.ntmps26
    go_wp2_with (first | (go_at_call 49; refine (sidesOk_any _ _ _).mono ?_; rintro e w' ⟨rfl, rfl⟩; rw [hb']) | (at_make; refine wpMakeI _ rfl _ _ rfl w.heap.size N _ _ _ _ rfl rfl (by have := HN.out; omega) (by have := HN.out; omega) (by have := HN.out; omega) (by simp) ?_; intro w1 hown hgrow))
    have hb1 : Below w.heap.size w w1 := Below.of_grown hgrow (Nat.le_refl _) (by simp)
    have hN1 : N ≤ 20 := by have := HN.out; omega
    clear hgrow hb'
    go_loopw [22] (fun i wr => ∃ j : Nat, j ≤ N ∧ i = .int .i64 j ∧ OwnI wr w.heap.size (.slice (some ⟨w.heap.size, 0, none⟩) N N) (fillTo (unitAt n m) N j) ∧ Below w.heap.size w wr)
      (fun i _ => N - (intOf i).toNat)
    case atStart => exact ⟨0, Nat.zero_le _, rfl, by rw [fillTo_zero]; exact hown, hb1⟩
    case round =>
      obtain ⟨j, hj, rfl, ho, hb⟩ := hrel
      clear hown hb1
      by_cases hlt : j < N
      · obtain ⟨ha0, ha1, hs0, hs1⟩ := at_bound n m j (by omega) (by omega) (by omega) (by omega) (by have := HN.out; omega)
        have hu : unitAt n m j = portI n m ((sideI n m j + 2) % 4) (atI n m j) := rfl
        go_wp2_with fail
        refine (placeOf_any _ _ _ _ (by omega) (by omega) (by omega) (by omega) (by omega) (by omega)).mono ?_
        rintro e w2 ⟨rfl, b2⟩
        generalize sideI n m j = sd at hs0 hs1 hu
        generalize atI n m j = aa at ha0 ha1 hu
        have HU := Lib.hid hu
        clear hu
        go_wp2_with fail
        refine (portOf_any _ _ _ _ _ (by omega) (by omega) (by omega) (by omega) (by omega) (by omega)).mono ?_
        rintro e w3 ⟨rfl, b3⟩
        rw [← HU.out]
        have o3 := ((ho.below b2 (Nat.le_refl _)).alloc (.cells #[.int .i64 sd, .int .i64 aa] 62)).below b3 (Nat.le_refl _)
        have hb3 : Below w.heap.size w w3 := ((hb.trans (b2.mono hb.size)).alloc (by have := hb.size; have := b2.size; omega) _).trans (b3.mono (by have := hb.size; have := b2.size; simp; omega))
        obtain ⟨⟨u, hc⟩, hf, hs⟩ := o3.put j (by rw [fillTo_length]; exact hlt)
        have hs := hs (unitAt n m j)
        rw [fillTo_set] at hs
        have HS := Lib.hid hs
        have HB := Lib.hid hb3
        clear o3 hs hb3 b3 b2 hb ho
        go_wp2
        go_roundw
        case rel => exact ⟨j + 1, by omega, by go_num, HS.out, HB.out.setCell (Nat.le_refl _) _⟩
        case measure => simp [intOf]; omega
      · obtain rfl : j = N := by omega
        rw [fillTo_all] at ho
        go_wp2
        go_ret2
        exact ⟨_, rfl, ho, hb⟩

/-- The reference's two loops. -/
def unit1 (n m : Nat) : Nat → List Int
  | 0 => List.replicate (2 * n + 2 * m) 0
  | k + 1 => ((unit1 n m k).set k (2 * m + n - 1 - k : Nat)).set (2 * m + n - 1 - k) k
def unit2 (n m : Nat) : Nat → List Int
  | 0 => unit1 n m m
  | i + 1 => ((unit2 n m i).set (m + i) (2 * n + 2 * m - 1 - i : Nat)).set (2 * n + 2 * m - 1 - i) (m + i : Nat)
theorem unit1_length (n m k : Nat) : (unit1 n m k).length = 2 * n + 2 * m := by
  induction k with
  | zero => simp [unit1]
  | succ k ih => simp [unit1, ih]
theorem unit2_length (n m k : Nat) : (unit2 n m k).length = 2 * n + 2 * m := by
  induction k with
  | zero => exact unit1_length n m m
  | succ k ih => simp [unit2, ih]
theorem unit2_all : ∀ n ∈ [1, 2, 3, 4, 5], ∀ m ∈ [1, 2, 3, 4, 5], unit2 n m n = fillN (unitAt n m) (2 * n + 2 * m) := by decide +kernel

theorem sJoinUnit_any (n m : Int) (w : World) :
    Calls Try.prog 27 #[.int .i64 n, .int .i64 m] w (GivesI w.heap.size w (unitL n m) (unitB n m)) := by
  cases hb : unitB n m
  · have hL : unitL n m = [] := by simp [unitL, hb]
    rw [hL]
    clear hL
    cases h1 : inB n 1 5
    · go_enter Try.func27, Try.ntmps27
      go_wp2_with (go_at_call 52; refine (l6In_any _ _ _ _).mono ?_; rintro e w' ⟨rfl, rfl⟩)
      go_ret2
      exact gives_empty w false
    · have h2 : inB m 1 5 = false := by simpa [unitB, h1] using hb
      go_enter Try.func27, Try.ntmps27
      go_wp2_with (go_at_call 52; refine (l6In_any _ _ _ _).mono ?_; rintro e w' ⟨rfl, rfl⟩)
      go_ret2
      exact gives_empty w false
  · have hnm := Bool.and_eq_true_iff.1 hb
    have h1 := hnm.1
    have h2 := hnm.2
    have hn := inB_iff.1 hnm.1
    have hm := inB_iff.1 hnm.2
    obtain ⟨n, rfl⟩ := Int.eq_ofNat_of_zero_le (show 0 ≤ n by omega)
    obtain ⟨m, rfl⟩ := Int.eq_ofNat_of_zero_le (show 0 ≤ m by omega)
    have hn1 : 1 ≤ n := by omega
    have hn2 : n ≤ 5 := by omega
    have hm1 : 1 ≤ m := by omega
    have hm2 : m ≤ 5 := by omega
    have hL : unitL n m = unit2 n m n := by
      rw [unit2_all n (by simp; omega) m (by simp; omega)]
      simp [unitL, hb]
    rw [hL]
    clear hL hb hnm hn hm
    obtain ⟨N, hN⟩ : ∃ N, N = 2 * n + 2 * m := ⟨_, rfl⟩
    have HN := Lib.hid hN
    have hN1 : N ≤ 20 := by omega
    have g1 : N ≤ 2 * n + 2 * m := by omega
    have g2 : 2 * n + 2 * m ≤ N := by omega
    clear hN
    go_enter Try.func27, Try.ntmps27
    go_wp2_with (first | (go_at_call 52; refine (l6In_any _ _ _ _).mono ?_; rintro e w' ⟨rfl, rfl⟩) | (go_at_call 53; refine (l2Ports_any _ _ _ (by omega) (by omega) (by omega) (by omega)).mono ?_; rintro e w' ⟨rfl, rfl⟩) | (at_make; refine wpMakeI _ rfl _ _ rfl w.heap.size N _ _ _ _ rfl rfl (by omega) (by omega) (by omega) (by simp) ?_; intro w1 hown hgrow))
    have hb1 : Below w.heap.size w w1 := Below.of_grown hgrow (Nat.le_refl _) (by simp)
    clear hgrow
    go_loopw [7] (fun i wr => ∃ j : Nat, j ≤ m ∧ i = .int .i64 j ∧ OwnI wr w.heap.size (.slice (some ⟨w.heap.size, 0, none⟩) N N) (unit1 n m j) ∧ Below w.heap.size w wr)
      (fun i _ => m - (intOf i).toNat)
    case atStart => exact ⟨0, Nat.zero_le _, rfl, by simp only [unit1]; rw [← HN.out]; exact hown, hb1⟩
    case round =>
      obtain ⟨j, hj, rfl, ho, hb⟩ := hrel
      clear hown hb1
      by_cases hlt : j < m
      · have hl := unit1_length n m j
        obtain ⟨⟨u, hc⟩, hf, hs⟩ := ho.put j (by omega)
        have hs := hs (2 * m + n - 1 - j : Nat)
        obtain ⟨⟨u2, hc2⟩, hf2, hs2⟩ := hs.put (2 * m + n - 1 - j) (by rw [List.length_set]; omega)
        have hs2 := hs2 j
        rw [show ((unit1 n m j).set j (2 * m + n - 1 - j : Nat)).set (2 * m + n - 1 - j) j = unit1 n m (j + 1) from rfl] at hs2
        have e1 : ((2 * m + n - 1 - j : Nat) : Int) = 2 * (m : Int) + n - 1 - j := by omega
        rw [e1] at hc2 hf2 hs2
        have HS := Lib.hid hs2
        have HB := Lib.hid hb
        clear hs hs2 hb ho hl e1
        go_wp2
        go_roundw
        case rel => exact ⟨j + 1, by omega, by go_num, HS.out, (HB.out.setCell (Nat.le_refl _) _).setCell (Nat.le_refl _) _⟩
        case measure => simp [intOf]; omega
      · obtain rfl : j = m := by omega
        go_wp2_with fail
        go_loopw [9] (fun i wr => ∃ i' : Nat, i' ≤ n ∧ i = .int .i64 i' ∧ OwnI wr w.heap.size (.slice (some ⟨w.heap.size, 0, none⟩) N N) (unit2 n j i') ∧ Below w.heap.size w wr)
          (fun i _ => n - (intOf i).toNat)
        case atStart => exact ⟨0, Nat.zero_le _, rfl, ho, hb⟩
        case round =>
          obtain ⟨i, hi, rfl, ho, hb⟩ := hrel
          by_cases hlt : i < n
          · have hl := unit2_length n j i
            obtain ⟨⟨u, hc⟩, hf, hs⟩ := ho.put (j + i) (by omega)
            have hs := hs (2 * n + 2 * j - 1 - i : Nat)
            obtain ⟨⟨u2, hc2⟩, hf2, hs2⟩ := hs.put (2 * n + 2 * j - 1 - i) (by rw [List.length_set]; omega)
            have hs2 := hs2 (j + i : Nat)
            rw [show ((unit2 n j i).set (j + i) (2 * n + 2 * j - 1 - i : Nat)).set (2 * n + 2 * j - 1 - i) (j + i : Nat) = unit2 n j (i + 1) from rfl] at hs2
            have e1 : ((2 * n + 2 * j - 1 - i : Nat) : Int) = 2 * ((n : Int) + j) - 1 - i := by omega
            have e2 : ((j + i : Nat) : Int) = (j : Int) + i := by omega
            have e3 : 2 * n + 2 * j - 1 - i = 2 * (n + j) - 1 - i := by omega
            rw [e1] at hc2 hf2 hs2
            rw [e2] at hs2
            rw [e3] at hc2 hf2 hs2
            have HS := Lib.hid hs2
            have HB := Lib.hid hb
            clear hs hs2 hb ho hl e1 e2 e3
            go_wp2_with (go_at_call 53; refine (l2Ports_any _ _ _ (by omega) (by omega) (by omega) (by omega)).mono ?_; rintro e w' ⟨rfl, rfl⟩)
            go_roundw
            case rel => exact ⟨i + 1, by omega, by go_num, HS.out, (HB.out.setCell (Nat.le_refl _) _).setCell (Nat.le_refl _) _⟩
            case measure => simp [intOf]; omega
          · obtain rfl : i = n := by omega
            go_wp2
            go_ret2
            exact ⟨_, rfl, ho, hb⟩
end Go.Proofs.Ytgbfhpjdhacfmaa
