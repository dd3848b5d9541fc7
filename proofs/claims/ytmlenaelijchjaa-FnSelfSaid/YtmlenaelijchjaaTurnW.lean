/- Contracts: pairings turned round (CrossTurn, both). -/
import Derived.Test.YtmlenaelijchjaaPairsW
import Derived.Test.YtmlenaelijchjaaHelpW
namespace Go.Proofs.Ytmlenaelijchjaa
open Go.RowKit

/-- The first j pairs are written, k places on. -/
def turnTo (xs : List Int) (k : Nat) : Nat → List Int
  | 0 => List.replicate xs.length 0
  | j + 1 => (turnTo xs k j).set ((j + k) % xs.length) ((xs.getD j 0 + k) % xs.length)
theorem okTo_get {xs : List Int} (h : okTo xs xs.length) {j : Nat} (hj : j < xs.length) : ∃ m : Nat, xs.getD j 0 = m ∧ m < xs.length := by
  have := h j hj
  simp only [okAt, Bool.and_eq_true, inB_iff] at this
  obtain ⟨m, hm⟩ := Int.eq_ofNat_of_zero_le this.1.1.1
  exact ⟨m, hm, by omega⟩
theorem turnTo_length (xs : List Int) (k j : Nat) : (turnTo xs k j).length = xs.length := by
  induction j with
  | zero => simp [turnTo]
  | succ j ih => simp [turnTo, ih]
def turnB (xs : List Int) (k : Int) : Bool := pairsB xs && inB k 0 20
def turnL (xs : List Int) (k : Int) : List Int := if turnB xs k then turnTo xs k.toNat xs.length else []

theorem turnL_le (xs : List Int) (k : Int) : (turnL xs k).length ≤ 1048576 := by
  unfold turnL
  split
  · rename_i h
    simp only [turnB, Bool.and_eq_true] at h
    have := inB_iff.1 (pairsB_iff.1 h.1).2
    rw [turnTo_length]; omega
  · simp
/-- What a call hands back that makes a slice of numbers and says whether it did. -/
def GivesI (B : Nat) (w : World) (L : List Int) (b : Bool) (e : Ending) (w' : World) : Prop :=
  ∃ v, e = .returned (.tuple #[v, .bool b]) ∧ OwnI w' B v L ∧ Below B w w'

theorem gives_empty (w : World) (b : Bool) : GivesI w.heap.size w [] b (.returned (.tuple #[.slice (some ⟨w.heap.size, 0, none⟩) 0 0, .bool b])) (w.alloc (.cells #[] 3)) :=
  ⟨_, rfl, World.ownsRow_made w #[] 0 (Nat.le_refl _) (Nat.zero_le _) rfl, (Below.refl _ _).alloc (Nat.le_refl _) _⟩

end Go.Proofs.Ytmlenaelijchjaa
