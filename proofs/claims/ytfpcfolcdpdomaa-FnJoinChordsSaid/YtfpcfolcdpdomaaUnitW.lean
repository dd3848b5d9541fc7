/- Contracts: the pairing of empty grids (JoinUnit, both). -/
import Derived.Test.YtfpcfolcdpdomaaPlaceW
import Derived.Test.YtfpcfolcdpdomaaFill
import Derived.Test.YtfpcfolcdpdomaaStS
import Derived.Test.YtfpcfolcdpdomaaTurnW
namespace Go.Proofs.Ytfpcfolcdpdomaa
open Go.RowKit
set_option linter.unusedVariables false

def unitAt (n m : Int) (p : Nat) : Int := portI n m ((sideI n m p + 2) % 4) (atI n m p)
def unitB (n m : Int) : Bool := inB n 1 5 && inB m 1 5
def unitL (n m : Int) : List Int := if unitB n m then fillN (unitAt n m) (2 * n.toNat + 2 * m.toNat) else []
theorem at_bound (n m : Int) (p : Nat) (hn : 1 ≤ n) (hn2 : n ≤ 5) (hm : 1 ≤ m) (hm2 : m ≤ 5) (hp : p < 2 * n + 2 * m) : 0 ≤ atI n m p ∧ atI n m p ≤ 20 ∧ 0 ≤ sideI n m p ∧ sideI n m p ≤ 3 := by
  unfold atI sideI
  repeat' split
  all_goals omega

theorem unitL_le (n m : Int) : (unitL n m).length ≤ 1048576 := by
  unfold unitL
  split
  · rename_i h
    simp only [unitB, Bool.and_eq_true, inB_iff] at h
    rw [fillN_length]; omega
  · simp

theorem iJoinUnit_any (n m : Int) (w : World) :
    Calls Try.prog 23 #[.int .i64 n, .int .i64 m] w (GivesI w.heap.size w (unitL n m) (unitB n m)) := by
  cases hb : unitB n m
  · have hL : unitL n m = [] := by simp [unitL, hb]
    rw [hL]
    have hb' : (inB n 1 5 && inB m 1 5) = false := hb
    clear hL
    go_enter Try.func23, Try.ntmps23
    go_wp2_with (go_at_call 44; refine (sidesOk_any _ _ _).mono ?_; rintro e w' ⟨rfl, rfl⟩; rw [hb'])
    go_ret2
    exact gives_empty w false
  · have hb' : (inB n 1 5 && inB m 1 5) = true := hb
    have hnm := Bool.and_eq_true_iff.1 hb'
    have hn := inB_iff.1 hnm.1
    have hm := inB_iff.1 hnm.2
    obtain ⟨n, rfl⟩ := Int.eq_ofNat_of_zero_le (show 0 ≤ n by omega)
    obtain ⟨m, rfl⟩ := Int.eq_ofNat_of_zero_le (show 0 ≤ m by omega)
    have hL : unitL n m = fillN (unitAt n m) (2 * n + 2 * m) := by simp [unitL, hb]
    have hn1 : 1 ≤ n := by omega
    have hn2 : n ≤ 5 := by omega
    have hm1 : 1 ≤ m := by omega
    have hm2 : m ≤ 5 := by omega
    rw [hL]
    clear hL hb hnm hn hm
    obtain ⟨N, hN⟩ : ∃ N, N = 2 * n + 2 * m := ⟨_, rfl⟩
    rw [← hN]
    have HN := Lib.hid hN
    clear hN
    go_enter Try.func23, Try.ntmps23
    go_wp2_with (first | (go_at_call 44; refine (sidesOk_any _ _ _).mono ?_; rintro e w' ⟨rfl, rfl⟩; rw [hb']) | (at_make; refine wpMakeI _ rfl _ _ rfl w.heap.size N _ _ _ _ rfl rfl (by have := HN.out; omega) (by have := HN.out; omega) (by have := HN.out; omega) (by simp) ?_; intro w1 hown hgrow))
    have hb1 : Below w.heap.size w w1 := Below.of_grown hgrow (Nat.le_refl _) (by simp)
    have hN1 : N ≤ 20 := by have := HN.out; omega
    clear hgrow hb'
    go_loopw [22] (fun i wr => ∃ j : Nat, j ≤ N ∧ i = .int .i64 j ∧ OwnI wr w.heap.size (.slice (some ⟨w.heap.size, 0, none⟩) N N) (fillTo (unitAt n m) N j) ∧ Below w.heap.size w wr)
      (fun i _ => N - (intOf i).toNat)
    case atStart => exact ⟨0, Nat.zero_le _, rfl, by rw [fillTo_zero]; exact hown, hb1⟩
    case round =>
      obtain ⟨j, hj, rfl, ho, hb⟩ := hrel
      clear hown hb1
      by_cases hlt : j < N
      · obtain ⟨ha0, ha1, hs0, hs1⟩ := at_bound n m j (by omega) (by omega) (by omega) (by omega) (by have := HN.out; omega)
        have hu : unitAt n m j = portI n m ((sideI n m j + 2) % 4) (atI n m j) := rfl
        go_wp2_with fail
        refine (placeOf_any _ _ _ _ (by omega) (by omega) (by omega) (by omega) (by omega) (by omega)).mono ?_
        rintro e w2 ⟨rfl, b2⟩
        generalize sideI n m j = sd at hs0 hs1 hu
        generalize atI n m j = aa at ha0 ha1 hu
        have HU := Lib.hid hu
        clear hu
        go_wp2_with fail
        refine (portOf_any _ _ _ _ _ (by omega) (by omega) (by omega) (by omega) (by omega) (by omega)).mono ?_
        rintro e w3 ⟨rfl, b3⟩
        rw [← HU.out]
        have o3 := ((ho.below b2 (Nat.le_refl _)).alloc (.cells #[.int .i64 sd, .int .i64 aa] 54)).below b3 (Nat.le_refl _)
        have hb3 : Below w.heap.size w w3 := ((hb.trans (b2.mono hb.size)).alloc (by have := hb.size; have := b2.size; omega) _).trans (b3.mono (by have := hb.size; have := b2.size; simp; omega))
        obtain ⟨⟨u, hc⟩, hf, hs⟩ := o3.put j (by rw [fillTo_length]; exact hlt)
        have hs := hs (unitAt n m j)
        rw [fillTo_set] at hs
        have HS := Lib.hid hs
        have HB := Lib.hid hb3
        clear o3 hs hb3 b3 b2 hb ho
        go_wp2
        go_roundw
        case rel => exact ⟨j + 1, by omega, by go_num, HS.out, HB.out.setCell (Nat.le_refl _) _⟩
        case measure => simp [intOf]; omega
      · obtain rfl : j = N := by omega
        rw [fillTo_all] at ho
        go_wp2
        go_ret2
        exact ⟨_, rfl, ho, hb⟩

/-- The reference's two loops. -/
def unit1 (n m : Nat) : Nat → List Int
  | 0 => List.replicate (2 * n + 2 * m) 0
  | k + 1 => ((unit1 n m k).set k (2 * m + n - 1 - k : Nat)).set (2 * m + n - 1 - k) k
def unit2 (n m : Nat) : Nat → List Int
  | 0 => unit1 n m m
  | i + 1 => ((unit2 n m i).set (m + i) (2 * n + 2 * m - 1 - i : Nat)).set (2 * n + 2 * m - 1 - i) (m + i : Nat)
theorem unit1_length (n m k : Nat) : (unit1 n m k).length = 2 * n + 2 * m := by
  induction k with
  | zero => simp [unit1]
  | succ k ih => simp [unit1, ih]
theorem unit2_length (n m k : Nat) : (unit2 n m k).length = 2 * n + 2 * m := by
  induction k with
  | zero => exact unit1_length n m m
  | succ k ih => simp [unit2, ih]
theorem unit2_all : ∀ n ∈ [1, 2, 3, 4, 5], ∀ m ∈ [1, 2, 3, 4, 5], unit2 n m n = fillN (unitAt n m) (2 * n + 2 * m) := by decide +kernel

end Go.Proofs.Ytfpcfolcdpdomaa
