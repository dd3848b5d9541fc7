/- Contracts: pairings of rows and columns (pairingOk, l6jOf). -/
import Derived.Test.YtmlenaelijchjaaPairsW
import Derived.Test.YtmlenaelijchjaaStS
namespace Go.Proofs.Ytmlenaelijchjaa
open Go.RowKit
set_option linter.unusedVariables false

def ofB (n m : Int) (xs : List Int) : Bool := (inB n 1 5 && inB m 1 5) && ((xs.length : Int) == 2 * n + 2 * m) && pairsB xs
theorem ofB_iff {n m : Int} {xs : List Int} : ofB n m xs = true ↔ 1 ≤ n ∧ n ≤ 5 ∧ 1 ≤ m ∧ m ≤ 5 ∧ (xs.length : Int) = 2 * n + 2 * m ∧ pairsB xs = true := by
  simp only [ofB, Bool.and_eq_true, inB_iff, beq_iff_eq]
  constructor
  · rintro ⟨⟨⟨h1, h2⟩, h3⟩, h4⟩
    exact ⟨h1.1, h1.2, h2.1, h2.2, h3, h4⟩
  · rintro ⟨h1, h2, h3, h4, h5, h6⟩
    exact ⟨⟨⟨⟨h1, h2⟩, ⟨h3, h4⟩⟩, h5⟩, h6⟩
/-- n and m as plain numbers. -/
theorem ofB_nat {n m : Int} {xs : List Int} (h : ofB n m xs = true) : ∃ n' m' : Nat, n = n' ∧ m = m' ∧ 1 ≤ n' ∧ n' ≤ 5 ∧ 1 ≤ m' ∧ m' ≤ 5 ∧ xs.length = 2 * n' + 2 * m' ∧ pairsB xs = true := by
  obtain ⟨h1, h2, h3, h4, h5, h6⟩ := ofB_iff.1 h
  exact ⟨n.toNat, m.toNat, by omega, by omega, by omega, by omega, by omega, by omega, by omega, h6⟩

end Go.Proofs.Ytmlenaelijchjaa
