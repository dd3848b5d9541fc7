/- Contracts: two pairings beside each other, as the program joins them: its small parts. -/
import Derived.Test.YtfpcfolcdpdomaaJoinL
import Derived.Test.YtfpcfolcdpdomaaOfW
import Derived.Test.YtfpcfolcdpdomaaPlMapW
import Derived.Deep.LoopGhost
namespace Go.Proofs.Ytfpcfolcdpdomaa
open Go.RowKit
set_option linter.unusedVariables false
set_option linter.unusedSimpArgs false

/-- Whether two pairings may be joined. -/
def twoB (n m : Int) (xs : List Int) (k : Int) (ys : List Int) : Bool := ofB n m xs && ofB n k ys && decide (m + k ≤ 5)
theorem twoB_nat {n m k : Int} {xs ys : List Int} (h : twoB n m xs k ys = true) : ∃ n' m' k' : Nat, n = n' ∧ m = m' ∧ k = k' ∧ 1 ≤ n' ∧ n' ≤ 5 ∧ 1 ≤ m' ∧ 1 ≤ k' ∧ m' + k' ≤ 5 ∧ xs.length = 2 * n' + 2 * m' ∧ ys.length = 2 * n' + 2 * k' ∧ pairsB xs = true ∧ pairsB ys = true := by
  simp only [twoB, Bool.and_eq_true, decide_eq_true_eq] at h
  obtain ⟨⟨h1, h2⟩, h3⟩ := h
  obtain ⟨n1, m1, rfl, rfl, a1, a2, a3, a4, a5, a6⟩ := ofB_nat h1
  obtain ⟨n2, k2, e1, rfl, b1, b2, b3, b4, b5, b6⟩ := ofB_nat h2
  obtain rfl : n1 = n2 := by omega
  exact ⟨n1, m1, k2, rfl, rfl, rfl, a1, a2, a3, b3, by omega, a5, b5, a6, b6⟩
def jpairL (n m : Int) (xs : List Int) (k : Int) (ys : List Int) : List Int := if twoB n m xs k ys = true then joinL n.toNat m.toNat k.toNat xs ys else []
def jroundL (n m : Int) (xs : List Int) (k : Int) (ys : List Int) : Int := if twoB n m xs k ys = true then (joinN n.toNat m.toNat k.toNat xs ys : Nat) else 0

theorem l6jTwo_any (n m : Int) (ao : Option Addr) (cap : Nat) (xs : List Int) (k : Int) (bo : Option Addr) (capb : Nat) (ys : List Int) (w : World) (hx : CellsI w ao xs) (hxm : xs.length ≤ maxLen) (hy : CellsI w bo ys) (hym : ys.length ≤ maxLen) :
    Calls Try.prog 29 #[.int .i64 n, .int .i64 m, .slice ao xs.length cap, .int .i64 k, .slice bo ys.length capb] w fun e w' => e = .returned (.bool (twoB n m xs k ys)) ∧ w = w' := by
  have H1 := Lib.hid (l6jOf_any n m ao cap xs w hx hxm)
  have H2 := Lib.hid (l6jOf_any n k bo capb ys w hy hym)
  cases h1 : ofB n m xs
  · have HB := Lib.hid (show twoB n m xs k ys = false by simp [twoB, h1])
    rw [h1] at H1
    go_enter Try.func29, Try.ntmps29
    go_wp2_with (go_at_call 34; refine H1.out.mono ?_; rintro e w' ⟨rfl, rfl⟩)
    go_ret
    exact ⟨ret_bool (by rw [HB.out]), rfl⟩
  · cases h2 : ofB n k ys
    · have HB := Lib.hid (show twoB n m xs k ys = false by simp [twoB, h2])
      rw [h1] at H1
      rw [h2] at H2
      go_enter Try.func29, Try.ntmps29
      go_wp2_with (go_at_call 34; first | (refine H1.out.mono ?_; rintro e w' ⟨rfl, rfl⟩; clear H1) | (refine H2.out.mono ?_; rintro e w' ⟨rfl, rfl⟩))
      go_ret
      exact ⟨ret_bool (by rw [HB.out]), rfl⟩
    · have HB := Lib.hid (show twoB n m xs k ys = decide (m + k ≤ 5) by simp [twoB, h1, h2])
      rw [h1] at H1
      rw [h2] at H2
      obtain ⟨-, -, p1, p2, -⟩ := ofB_iff.1 h1
      obtain ⟨-, -, p3, p4, -⟩ := ofB_iff.1 h2
      clear h1 h2
      go_enter Try.func29, Try.ntmps29
      go_wp2_with (go_at_call 34; first | (refine H1.out.mono ?_; rintro e w' ⟨rfl, rfl⟩; clear H1) | (refine H2.out.mono ?_; rintro e w' ⟨rfl, rfl⟩))
      go_ret
      exact ⟨ret_bool (by rw [HB.out]), rfl⟩

theorem jointOf_any (n m : Int) (ao : Option Addr) (cap : Nat) (xs : List Int) (k : Int) (bo : Option Addr) (capb : Nat) (ys : List Int) (w : World) (hx : CellsI w ao xs) (hxm : xs.length ≤ maxLen) (hy : CellsI w bo ys) (hym : ys.length ≤ maxLen) :
    Calls Try.prog 31 #[.int .i64 n, .int .i64 m, .slice ao xs.length cap, .int .i64 k, .slice bo ys.length capb] w fun e w' => e = .returned (.tuple #[.agg #[.int .i64 n, .int .i64 m, .int .i64 k, .slice ao xs.length cap, .slice bo ys.length capb], .bool (twoB n m xs k ys)]) ∧ Below w.heap.size w w' := by
  have H1 := Lib.hid fun W (b : Below w.heap.size w W) => pairingOk_any n m ao cap xs W (hx.below b (Nat.le_refl _)) hxm
  have H2 := Lib.hid fun W (b : Below w.heap.size w W) => pairingOk_any n k bo capb ys W (hy.below b (Nat.le_refl _)) hym
  have hbl : ∀ o, Below w.heap.size w (w.alloc o) := fun o => (Below.refl _ _).alloc (Nat.le_refl _) o
  have HBL := Lib.hid hbl
  clear hbl
  cases h1 : ofB n m xs
  · have HB := Lib.hid (show twoB n m xs k ys = false by simp [twoB, h1])
    rw [h1] at H1
    go_enter Try.func31, Try.ntmps31
    go_wp2_with (go_at_call 35; refine (H1.out _ (HBL.out _)).mono ?_; rintro e w' ⟨rfl, rfl⟩)
    refine bodyPost_ret (v := .tuple #[.agg #[.int .i64 n, .int .i64 m, .int .i64 k, .slice ao xs.length cap, .slice bo ys.length capb], .bool false]) (by simp [results, Try.results31, go_sem]) rfl ⟨by rw [HB.out], HBL.out _⟩
  · cases h2 : ofB n k ys
    · have HB := Lib.hid (show twoB n m xs k ys = false by simp [twoB, h2])
      rw [h1] at H1
      rw [h2] at H2
      go_enter Try.func31, Try.ntmps31
      go_wp2_with (go_at_call 35; first | (refine (H1.out _ (HBL.out _)).mono ?_; rintro e w' ⟨rfl, rfl⟩; clear H1) | (refine (H2.out _ (HBL.out _)).mono ?_; rintro e w' ⟨rfl, rfl⟩) | (refine (H1.out _ (Below.refl _ _)).mono ?_; rintro e w' ⟨rfl, rfl⟩; clear H1) | (refine (H2.out _ (Below.refl _ _)).mono ?_; rintro e w' ⟨rfl, rfl⟩))
      refine bodyPost_ret (v := .tuple #[.agg #[.int .i64 n, .int .i64 m, .int .i64 k, .slice ao xs.length cap, .slice bo ys.length capb], .bool false]) (by simp [results, Try.results31, go_sem]) rfl ⟨by rw [HB.out], HBL.out _⟩
    · rw [h1] at H1
      rw [h2] at H2
      obtain ⟨p1, p2, p3, p4, -⟩ := ofB_iff.1 h1
      obtain ⟨-, -, p5, p6, -⟩ := ofB_iff.1 h2
      by_cases h3 : m + k ≤ 5
      · have HB := Lib.hid (show twoB n m xs k ys = true by simp [twoB, h1, h2, h3])
        clear h1 h2
        go_enter Try.func31, Try.ntmps31
        go_wp2_with (go_at_call 35; first | (refine (H1.out _ (HBL.out _)).mono ?_; rintro e w' ⟨rfl, rfl⟩; clear H1) | (refine (H2.out _ (HBL.out _)).mono ?_; rintro e w' ⟨rfl, rfl⟩) | (refine (H1.out _ (Below.refl _ _)).mono ?_; rintro e w' ⟨rfl, rfl⟩; clear H1) | (refine (H2.out _ (Below.refl _ _)).mono ?_; rintro e w' ⟨rfl, rfl⟩))
        refine bodyPost_ret (v := .tuple #[.agg #[.int .i64 n, .int .i64 m, .int .i64 k, .slice ao xs.length cap, .slice bo ys.length capb], .bool true]) (by simp [results, Try.results31, go_sem]) rfl ⟨by rw [HB.out], HBL.out _⟩
      · have HB := Lib.hid (show twoB n m xs k ys = false by simp [twoB, h1, h2, h3])
        clear h1 h2
        go_enter Try.func31, Try.ntmps31
        go_wp2_with (go_at_call 35; first | (refine (H1.out _ (HBL.out _)).mono ?_; rintro e w' ⟨rfl, rfl⟩; clear H1) | (refine (H2.out _ (HBL.out _)).mono ?_; rintro e w' ⟨rfl, rfl⟩) | (refine (H1.out _ (Below.refl _ _)).mono ?_; rintro e w' ⟨rfl, rfl⟩; clear H1) | (refine (H2.out _ (Below.refl _ _)).mono ?_; rintro e w' ⟨rfl, rfl⟩))
        refine bodyPost_ret (v := .tuple #[.agg #[.int .i64 n, .int .i64 m, .int .i64 k, .slice ao xs.length cap, .slice bo ys.length capb], .bool false]) (by simp [results, Try.results31, go_sem]; omega) rfl ⟨by rw [HB.out], HBL.out _⟩

set_option maxHeartbeats 1000000 in
theorem crosses_any (sec : Bool) (s a : Int) (w : World) (ha0 : -100 ≤ a) (ha : a ≤ 100) :
    Calls Try.prog 49 #[.bool sec, .agg #[.int .i64 s, .int .i64 a]] w fun e w' => e = .returned (.tuple #[.bool (if sec then s == 3 else s == 1), .agg #[.int .i64 (if (if sec then s == 3 else s == 1) = true then (if sec then 1 else 3) else s), .int .i64 a]]) ∧ Below w.heap.size w w' := by
  cases sec
  · show Calls _ _ _ _ fun e w' => e = .returned (.tuple #[.bool (s == 1), .agg #[.int .i64 (if (s == 1) = true then 3 else s), .int .i64 a]]) ∧ _
    cases hs : (s == 1)
    · have h3 : (s == 1) = false := hs
      go_enter Try.func49, Try.ntmps49
      go_wp2
      go_region
      all_goals
        go_wp2
        refine bodyPost_ret (v := .tuple #[.bool false, .agg #[.int .i64 s, .int .i64 a]]) (by simp [results, Try.results49, go_sem]) rfl ⟨rfl, by go_grown⟩
    · have h3 : (s == 1) = true := hs
      go_enter Try.func49, Try.ntmps49
      go_wp2
      go_region
      all_goals
        go_wp2
        refine bodyPost_ret (v := .tuple #[.bool true, .agg #[.int .i64 3, .int .i64 a]]) (by simp [results, Try.results49, go_sem]) rfl ⟨rfl, by go_grown⟩
  · show Calls _ _ _ _ fun e w' => e = .returned (.tuple #[.bool (s == 3), .agg #[.int .i64 (if (s == 3) = true then 1 else s), .int .i64 a]]) ∧ _
    cases hs : (s == 3)
    · have h3 : (s == 3) = false := hs
      go_enter Try.func49, Try.ntmps49
      go_wp2
      go_region
      all_goals
        go_wp2
        refine bodyPost_ret (v := .tuple #[.bool false, .agg #[.int .i64 s, .int .i64 a]]) (by simp [results, Try.results49, go_sem]) rfl ⟨rfl, by go_grown⟩
    · have h3 : (s == 3) = true := hs
      go_enter Try.func49, Try.ntmps49
      go_wp2
      go_region
      all_goals
        go_wp2
        refine bodyPost_ret (v := .tuple #[.bool true, .agg #[.int .i64 1, .int .i64 a]]) (by simp [results, Try.results49, go_sem]) rfl ⟨rfl, by go_grown⟩

end Go.Proofs.Ytfpcfolcdpdomaa
