/- Contracts: a grid with another letter in a cell (put, other, mirrorAt). -/
import Derived.Test.YtgbfhpjdhacfmaaMakeW
import Derived.Test.YtgbfhpjdhacfmaaPortW
namespace Go.Proofs.Ytgbfhpjdhacfmaa
open Go.RowKit
set_option linter.unusedVariables false
set_option linter.unusedSimpArgs false

theorem cell_old {B : Nat} {w w' : World} {b : Nat} {v : Value} (h : w.cell? ⟨b, 0, none⟩ = some v) (hb : Below B w w') (hB : w.heap.size ≤ B) : w'.cell? ⟨b, 0, none⟩ = some v :=
  (hb.cell (p := ⟨b, 0, none⟩) (Nat.lt_of_lt_of_le (World.block_lt_of_cell? w _ h) hB)).trans h
theorem st_alloc {w0 W : World} {segs : List Seg} (h : St w0 W segs) (o : Obj) : St w0 (W.alloc o) segs := h.step ((Below.refl _ _).alloc (Nat.le_refl _) o)

/-- At a grid: is it a cell? -/
def cellB (ss : List ByteArray) (c : Int) : Bool := gridB ss && inB c 0 (((gr ss).n * (gr ss).m : Nat) - 1)
theorem cellB_nat {ss : List ByteArray} {c : Int} (h : cellB ss c = true) : gridB ss = true ∧ ∃ q : Nat, c = q ∧ q < (gr ss).n * (gr ss).m := by
  simp only [cellB, Bool.and_eq_true, inB_iff] at h
  have := h.2
  exact ⟨h.1, c.toNat, by omega, by omega⟩
/-- At a grid: is it a cell with a mirror? -/
def mirB (ss : List ByteArray) (c : Int) : Bool := cellB ss c && !((gr ss).sig c.toNat == 46)
end Go.Proofs.Ytgbfhpjdhacfmaa
