/- Contracts: pairings of rows and columns (pairingOk, l6jOf). -/
import Derived.Test.YtoodfgfbppkbmaaPairsW
import Derived.Test.YtoodfgfbppkbmaaStS
namespace Go.Proofs.Ytoodfgfbppkbmaa
open Go.RowKit
set_option linter.unusedVariables false

def ofB (n m : Int) (xs : List Int) : Bool := (inB n 1 5 && inB m 1 5) && ((xs.length : Int) == 2 * n + 2 * m) && pairsB xs
theorem ofB_iff {n m : Int} {xs : List Int} : ofB n m xs = true ↔ 1 ≤ n ∧ n ≤ 5 ∧ 1 ≤ m ∧ m ≤ 5 ∧ (xs.length : Int) = 2 * n + 2 * m ∧ pairsB xs = true := by
  simp only [ofB, Bool.and_eq_true, inB_iff, beq_iff_eq]
  constructor
  · rintro ⟨⟨⟨h1, h2⟩, h3⟩, h4⟩
    exact ⟨h1.1, h1.2, h2.1, h2.2, h3, h4⟩
  · rintro ⟨h1, h2, h3, h4, h5, h6⟩
    exact ⟨⟨⟨⟨h1, h2⟩, ⟨h3, h4⟩⟩, h5⟩, h6⟩
/-- n and m as plain numbers. -/
theorem ofB_nat {n m : Int} {xs : List Int} (h : ofB n m xs = true) : ∃ n' m' : Nat, n = n' ∧ m = m' ∧ 1 ≤ n' ∧ n' ≤ 5 ∧ 1 ≤ m' ∧ m' ≤ 5 ∧ xs.length = 2 * n' + 2 * m' ∧ pairsB xs = true := by
  obtain ⟨h1, h2, h3, h4, h5, h6⟩ := ofB_iff.1 h
  exact ⟨n.toNat, m.toNat, by omega, by omega, by omega, by omega, by omega, by omega, by omega, h6⟩

theorem pairingOk_any (n m : Int) (ao : Option Addr) (cap : Nat) (xs : List Int) (w : World) (hx : CellsI w ao xs) (hm : xs.length ≤ maxLen) :
    Calls Try.prog 79 #[.int .i64 n, .int .i64 m, .slice ao xs.length cap] w fun e w' => e = .returned (.bool (ofB n m xs)) ∧ w = w' := by
  cases h1 : (inB n 1 5 && inB m 1 5)
  · have HB := Lib.hid (show ofB n m xs = false by simp only [ofB]; rw [h1]; rfl)
    go_enter Try.func79, Try.ntmps79
    go_wp2_with (go_at_call 103; refine (sidesOk_any _ _ _).mono ?_; rintro e w' ⟨rfl, rfl⟩; rw [h1])
    go_ret
    exact ⟨ret_bool (by rw [HB.out]), rfl⟩
  · have h := Bool.and_eq_true_iff.1 h1
    have hn := inB_iff.1 h.1
    have hmm := inB_iff.1 h.2
    clear h
    cases h2 : ((xs.length : Int) == 2 * n + 2 * m)
    · have HB := Lib.hid (show ofB n m xs = false by simp only [ofB]; rw [h1, h2]; rfl)
      go_enter Try.func79, Try.ntmps79
      go_wp2_with (go_at_call 103; refine (sidesOk_any _ _ _).mono ?_; rintro e w' ⟨rfl, rfl⟩; rw [h1])
      go_ret
      exact ⟨ret_bool (by rw [HB.out]), rfl⟩
    · have HB := Lib.hid (show ofB n m xs = pairsB xs by simp only [ofB]; rw [h1, h2]; rfl)
      go_enter Try.func79, Try.ntmps79
      go_wp2_with (first | (go_at_call 103; refine (sidesOk_any _ _ _).mono ?_; rintro e w' ⟨rfl, rfl⟩; rw [h1]) | (go_at_call 104; refine (iCrossIn_any _ _ _ _ hx hm).mono ?_; rintro e w' ⟨rfl, rfl⟩))
      go_ret
      exact ⟨ret_bool (by rw [HB.out]), rfl⟩

end Go.Proofs.Ytoodfgfbppkbmaa
