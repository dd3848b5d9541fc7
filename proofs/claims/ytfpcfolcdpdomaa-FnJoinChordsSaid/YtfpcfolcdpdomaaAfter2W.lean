/- Contract: going on by a cell (after). -/
import Derived.Test.YtfpcfolcdpdomaaAfterW
import Derived.Deep.DeepCutAuto
namespace Go.Proofs.Ytfpcfolcdpdomaa
open Go.RowKit
set_option linter.unusedVariables false

/-- Two boxes that the call laid, behind a callee that makes memory of its own. -/
def Boxes (w w9 : World) (a b e f : Value) : Prop :=
  (w9.cell? ⟨w.heap.size, 0, none⟩ = some a ∧ w9.cell? ⟨w.heap.size, 1, none⟩ = some b ∧ w9.cell? ⟨w.heap.size + 1, 0, none⟩ = some e ∧ w9.cell? ⟨w.heap.size + 1, 1, none⟩ = some f ∧
      w9.frozen? ⟨w.heap.size + 1, 0, none⟩ = false ∧ w9.frozen? ⟨w.heap.size + 1, 1, none⟩ = false) ∧ w.heap.size + 1 < w9.heap.size ∧ Below w.heap.size w w9
theorem boxes {w w9 : World} {a b e f : Value} {ty : TypeId} {nq : Nat} (bT : Below (((w.alloc (.cells #[a, b] ty)).alloc (.cells #[e, f] ty)).drewN nq).heap.size (((w.alloc (.cells #[a, b] ty)).alloc (.cells #[e, f] ty)).drewN nq) w9) : Boxes w w9 a b e f := by
  have hz := bT.size
  simp only [World.heap_drewN, World.size_alloc] at hz
  refine ⟨⟨(bT.cell (p := ⟨w.heap.size, 0, none⟩) (by simp; omega)).trans (by simp [go_sem]), (bT.cell (p := ⟨w.heap.size, 1, none⟩) (by simp; omega)).trans (by simp [go_sem]), (bT.cell (p := ⟨w.heap.size + 1, 0, none⟩) (by simp)).trans (by simp [go_sem]),
    (bT.cell (p := ⟨w.heap.size + 1, 1, none⟩) (by simp)).trans (by simp [go_sem]), (bT.frozen (p := ⟨w.heap.size + 1, 0, none⟩) (by simp)).trans (by simp [go_sem]), (bT.frozen (p := ⟨w.heap.size + 1, 1, none⟩) (by simp)).trans (by simp [go_sem])⟩, by omega, ?_⟩
  exact (below_dn (((Below.refl w.heap.size w).alloc (Nat.le_refl _) _).alloc (by simp) _) _).trans (bT.mono (by simp; omega))
theorem cell_alloc_lt {w : World} {o : Obj} {b k : Nat} {v : Value} (h : w.cell? ⟨b, k, none⟩ = some v) : (w.alloc o).cell? ⟨b, k, none⟩ = some v :=
  (World.cell?_of_block (w := w) (Below.heap_alloc w o b (World.block_lt_of_cell? w _ h))).trans h
theorem frozen_alloc_lt {w : World} {o : Obj} {b k : Nat} {v : Bool} (hb : b < w.heap.size) (h : w.frozen? ⟨b, k, none⟩ = v) : (w.alloc o).frozen? ⟨b, k, none⟩ = v :=
  (World.frozen?_of_block (w := w) (Below.heap_alloc w o b hb)).trans h

/-- What 'after' tells: the next state and -1, or the state and the port. -/
def Gr.aft (g : Gr) (x : Stt) : Stt × Int := match g.nx x with | some y => (y, -1) | none => (x, (g.out x : Int))

end Go.Proofs.Ytfpcfolcdpdomaa
