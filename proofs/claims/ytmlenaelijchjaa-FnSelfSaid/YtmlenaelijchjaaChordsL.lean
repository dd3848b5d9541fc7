/- The number of pairs that cross, counted: plain facts. -/
import Derived.Test.YtmlenaelijchjaaRv
namespace Go.Proofs.Ytmlenaelijchjaa

/-- The pairs of a and c cross, a being the least of the four. -/
def chAt (xs : List Int) (a c : Nat) : Bool := decide ((a : Int) < c) && decide ((c : Int) < xs.getD a 0) && decide (xs.getD a 0 < xs.getD c 0)
/-- How many c below j cross with a. -/
def rowTo (xs : List Int) (a : Nat) : Nat → Nat
  | 0 => 0
  | j + 1 => rowTo xs a j + if chAt xs a j then 1 else 0
def chTo (xs : List Int) : Nat → Nat
  | 0 => 0
  | i + 1 => chTo xs i + rowTo xs i xs.length
theorem rowTo_yes {xs : List Int} {a j : Nat} (h : chAt xs a j = true) : rowTo xs a (j + 1) = rowTo xs a j + 1 := by simp [rowTo, h]
theorem rowTo_no {xs : List Int} {a j : Nat} (h : chAt xs a j = false) : rowTo xs a (j + 1) = rowTo xs a j := by simp [rowTo, h]
theorem rowTo_le (xs : List Int) (a j : Nat) : rowTo xs a j ≤ j := by
  induction j with
  | zero => exact Nat.le_refl _
  | succ j ih => simp only [rowTo]; split <;> omega
theorem rowTo_own (xs : List Int) (a j : Nat) (h : j ≤ a + 1) : rowTo xs a j = 0 := by
  induction j with
  | zero => rfl
  | succ j ih =>
    have : chAt xs a j = false := by
      have : ¬ ((a : Int) < j) := by omega
      simp [chAt, this]
    rw [rowTo_no this]
    exact ih (by omega)
theorem chTo_le (xs : List Int) (i : Nat) : chTo xs i ≤ i * xs.length := by
  induction i with
  | zero => simp [chTo]
  | succ i ih =>
    have := rowTo_le xs i xs.length
    simp only [chTo, Nat.succ_mul]
    omega
theorem chTo_succ (xs : List Int) (i : Nat) : chTo xs (i + 1) = chTo xs i + rowTo xs i xs.length := rfl
/-- The number of crossing pairs that CrossChords tells. -/
def chordsN (xs : List Int) : Int := if pairsB xs then (chTo xs xs.length : Int) else 0

end Go.Proofs.Ytmlenaelijchjaa
