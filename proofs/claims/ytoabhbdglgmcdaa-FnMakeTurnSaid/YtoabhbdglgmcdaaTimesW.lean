/- Contracts: the cells of a way and how often each comes (cellsOf, timesIn, BeamWay, l2Often). -/
import Derived.Test.YtoabhbdglgmcdaaRoundL
import Derived.Test.YtoabhbdglgmcdaaCellW
import Derived.Test.YtoabhbdglgmcdaaStS
namespace Go.Proofs.Ytoabhbdglgmcdaa
open Go.RowKit
set_option linter.unusedVariables false
set_option linter.unusedSimpArgs false

/-- The steps L lie at ao. -/
def CellsStt (w : World) (ao : Option Addr) (L : List Stt) : Prop :=
  ∀ i, i < L.length → ∃ b off, ao = some ⟨b, off, none⟩ ∧ w.cell? ⟨b, off + i * 2, none⟩ = some (.int .i64 (L.getD i (0, 0)).1) ∧ w.cell? ⟨b, off + i * 2 + 1, none⟩ = some (.int .i64 (L.getD i (0, 0)).2)
theorem sttCells_get : ∀ (L : List Stt) (i : Nat), i < L.length → (sttCells L)[i * 2]? = some (.int .i64 (L.getD i (0, 0)).1) ∧ (sttCells L)[i * 2 + 1]? = some (.int .i64 (L.getD i (0, 0)).2) := by
  intro L
  induction L with
  | nil => intro i h; simp at h
  | cons x t ih =>
    intro i h
    match i with
    | 0 => exact ⟨rfl, rfl⟩
    | i + 1 =>
      have := ih i (by simpa using h)
      rw [show (i + 1) * 2 = i * 2 + 2 by omega]
      exact this
theorem SStt_cells {w : World} {base : Nat} {ao : Option Addr} {n cap : Nat} {L : List Stt} (h : (SStt (.slice ao n cap) L).own w base) : CellsStt w ao L := by
  intro i hi
  rcases id h.2 with ⟨hv, hn⟩ | ⟨g, cap', cur, hv, hb, hg, _⟩
  · have : L.length = 0 := hn
    omega
  · have hv' : (Value.slice ao n cap) = .slice (some ⟨g, 0, none⟩) L.length cap' := hv
    cases hv'
    obtain ⟨h1, h2⟩ := sttCells_get L i hi
    refine ⟨g, 0, rfl, ?_, ?_⟩
    · have hc := World.ownsRow.cellAt h (i * 2) (by show i * 2 < L.length * 2; omega)
      rw [Nat.zero_add, hc]
      exact h1
    · have hc := World.ownsRow.cellAt h (i * 2 + 1) (by show i * 2 + 1 < L.length * 2; omega)
      rw [Nat.zero_add, hc]
      exact h2
theorem CellsStt.below {B : Nat} {w w' : World} {ao : Option Addr} {L : List Stt} (h : CellsStt w ao L) (hb : Below B w w') (hB : w.heap.size ≤ B) : CellsStt w' ao L := by
  intro i hi
  obtain ⟨b, off, rfl, hc, hd⟩ := h i hi
  exact ⟨b, off, rfl, (hb.cell (p := ⟨b, off + i * 2, none⟩) (Nat.lt_of_lt_of_le (World.block_lt_of_cell? w _ hc) hB)).trans hc, (hb.cell (p := ⟨b, off + i * 2 + 1, none⟩) (Nat.lt_of_lt_of_le (World.block_lt_of_cell? w _ hd) hB)).trans hd⟩
/-- The cells of the first j steps. -/
def fstTo (L : List Stt) (j : Nat) : List Int := (L.take j).map fun y => (y.1 : Int)
theorem fstTo_succ {L : List Stt} {j : Nat} (h : j < L.length) : fstTo L j ++ [((L.getD j (0, 0)).1 : Int)] = fstTo L (j + 1) := by
  rw [fstTo, fstTo, List.take_succ_eq_append_getElem h, List.map_append]
  simp only [List.map_cons, List.map_nil, List.getD_eq_getElem?_getD, List.getElem?_eq_getElem h, Option.getD_some]
theorem fstTo_length {L : List Stt} {j : Nat} (h : j ≤ L.length) : (fstTo L j).length = j := by simp [fstTo]; omega
theorem fstTo_all (L : List Stt) : fstTo L L.length = L.map fun y => (y.1 : Int) := by simp [fstTo]

theorem cell_one_new' (w : World) (o : Obj) (u : Value) (ty : TypeId) : ∀ (j : Nat) (v : Value), [u][j]? = some v → ((w.alloc o).alloc (.cells #[u] ty)).cell? ((⟨w.heap.size + 1, 0, none⟩ : Addr).add j) = some v := by
  have := cell_one_new (w.alloc o) u ty
  rwa [World.size_alloc] at this

end Go.Proofs.Ytoabhbdglgmcdaa
