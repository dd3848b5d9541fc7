/- Contracts: ports called by other numbers (l6jMap; JoinTurn, JoinFlip of the reference). -/
import Derived.Test.YtmlenaelijchjaaOfW
import Derived.Test.YtmlenaelijchjaaFill
import Derived.Test.YtmlenaelijchjaaTurnW
namespace Go.Proofs.Ytmlenaelijchjaa
open Go.RowKit
set_option linter.unusedVariables false

/-- The first j pairs are written under their new names. -/
def mapTo (f : Nat → Nat) (xs : List Int) : Nat → List Int
  | 0 => List.replicate xs.length 0
  | j + 1 => (mapTo f xs j).set (f j) (f (xs.getD j 0).toNat : Nat)
theorem mapTo_length (f : Nat → Nat) (xs : List Int) (j : Nat) : (mapTo f xs j).length = xs.length := by
  induction j with
  | zero => simp [mapTo]
  | succ j ih => simp [mapTo, ih]
def namesL (f : Nat → Nat) (N : Nat) : List Int := fillN (fun i => (f i : Int)) N
theorem namesL_length (f : Nat → Nat) (N : Nat) : (namesL f N).length = N := fillN_length _ _
theorem namesL_succ (f : Nat → Nat) (k : Nat) : namesL f k ++ [(f k : Int)] = namesL f (k + 1) := by simp [namesL, fillN, List.range_succ]

def jturnF (n m N : Nat) (p : Nat) : Nat := (p + n) % N
def jturnL (n m : Int) (xs : List Int) : List Int := if ofB n m xs then mapTo (jturnF n.toNat m.toNat xs.length) xs xs.length else []
def jflipF (n m N : Nat) (p : Nat) : Nat := (m + N - 1 - p) % N
def jflipL (n m : Int) (xs : List Int) : List Int := if ofB n m xs then mapTo (jflipF n.toNat m.toNat xs.length) xs xs.length else []
end Go.Proofs.Ytmlenaelijchjaa
