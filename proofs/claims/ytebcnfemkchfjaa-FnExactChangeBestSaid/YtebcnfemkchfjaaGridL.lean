/- Grids as lists of texts: plain facts. -/
import Derived.Test.YtebcnfemkchfjaaSmall
namespace Go.Proofs.Ytebcnfemkchfjaa
open Go.RowKit
set_option linter.unusedVariables false

/-- A sign that is a cell: '.', 'r' or 'f'. -/
def letB (c : Int) : Bool := c == 46 || c == 114 || c == 102
/-- Sign k of a text. -/
def sgn (s : ByteArray) (k : Nat) : Int := ((s.data.toList.getD k 0).toNat : Int)
theorem sgn_eq (s : ByteArray) (k : Nat) (h : k < s.size) : ((s[k]'h).toNat : Int) = sgn s k := by
  have h' : k < s.data.toList.length := by simpa using h
  simp only [sgn, List.getD_eq_getElem?_getD, List.getElem?_eq_getElem h', Option.getD_some]
  rfl
/-- The row with a number. -/
def rowOf (ss : List ByteArray) (i : Nat) : ByteArray := ss.getD i ByteArray.empty
def rowB (m : Nat) (s : ByteArray) : Bool := (s.size == m) && (List.range m).all fun k => letB (sgn s k)
def gridB (ss : List ByteArray) : Bool := inB ss.length 1 5 && (List.range ss.length).all (fun i => rowB (rowOf ss 0).size (rowOf ss i)) && inB (rowOf ss 0).size 1 5

theorem rowB_iff {m : Nat} {s : ByteArray} : rowB m s = true ↔ s.size = m ∧ ∀ k, k < m → letB (sgn s k) = true := by
  simp [rowB]
theorem gridB_iff {ss : List ByteArray} : gridB ss = true ↔ (1 ≤ ss.length ∧ ss.length ≤ 5) ∧ (∀ i, i < ss.length → rowB (rowOf ss 0).size (rowOf ss i) = true) ∧ 1 ≤ (rowOf ss 0).size ∧ (rowOf ss 0).size ≤ 5 := by
  simp only [gridB, Bool.and_eq_true, inB_iff, List.all_eq_true, List.mem_range]
  constructor
  · rintro ⟨⟨h1, h2⟩, h3⟩; exact ⟨by omega, h2, by omega⟩
  · rintro ⟨h1, h2, h3⟩; exact ⟨⟨by omega, h2⟩, by omega⟩
theorem gridB_row {ss : List ByteArray} {i : Nat} (hi : i < ss.length) (h : rowB (rowOf ss 0).size (rowOf ss i) = false) : gridB ss = false := by
  cases hg : gridB ss
  · rfl
  · have := (gridB_iff.1 hg).2.1 i hi
    rw [h] at this; cases this
theorem gridB_len {ss : List ByteArray} (h : inB ss.length 1 5 = false) : gridB ss = false := by simp [gridB, h]
theorem gridB_side {ss : List ByteArray} (h : inB (rowOf ss 0).size 1 5 = false) : gridB ss = false := by simp [gridB, h]
theorem gridB_end {ss : List ByteArray} (h0 : inB ss.length 1 5 = true) (h : ∀ i, i < ss.length → rowB (rowOf ss 0).size (rowOf ss i) = true) : gridB ss = inB (rowOf ss 0).size 1 5 := by
  have : (List.range ss.length).all (fun i => rowB (rowOf ss 0).size (rowOf ss i)) = true := by simpa using h
  simp [gridB, h0, this]
theorem gridB_end2 {ss : List ByteArray} (h : ∀ i, i < ss.length → rowB (rowOf ss 0).size (rowOf ss i) = true ∧ inB (rowOf ss i).size 1 5 = true) : gridB ss = inB ss.length 1 5 := by
  cases h0 : inB ss.length 1 5
  · exact gridB_len h0
  · rw [gridB_end h0 fun i hi => (h i hi).1]
    have := inB_iff.1 h0
    exact (h 0 (by omega)).2
theorem gridB_row2 {ss : List ByteArray} {i : Nat} (hi : i < ss.length) (h : (rowOf ss i).size = (rowOf ss 0).size) (h2 : inB (rowOf ss i).size 1 5 = false) : gridB ss = false := by
  rw [h] at h2; exact gridB_side h2
theorem rowB_size {m : Nat} {s : ByteArray} (h : s.size ≠ m) : rowB m s = false := by simp [rowB, h]
theorem rowB_sign {m : Nat} {s : ByteArray} {k : Nat} (hk : k < m) (h : letB (sgn s k) = false) : rowB m s = false := by
  cases hr : rowB m s
  · rfl
  · have := (rowB_iff.1 hr).2 k hk
    rw [h] at this; cases this

/-- The texts ss lie at ao. -/
def CellsS (w : World) (ao : Option Addr) (ss : List ByteArray) : Prop :=
  ∀ i, i < ss.length → ∃ b off, ao = some ⟨b, off, none⟩ ∧ w.cell? ⟨b, off + i, none⟩ = some (.string (rowOf ss i))
theorem CellsS.nil (w : World) (ao : Option Addr) : CellsS w ao [] := fun i hi => by simp at hi
theorem CellsS.at {w : World} {ao : Option Addr} {ss : List ByteArray} (h : CellsS w ao ss) {i : Nat} (hi : i < ss.length) :
    ∃ b off, ao = some ⟨b, off, none⟩ ∧ (∀ j, j < ss.length → w.cell? ⟨b, off + j, none⟩ = some (.string (rowOf ss j))) ∧ b < w.heap.size := by
  obtain ⟨b, off, rfl, hc⟩ := h i hi
  refine ⟨b, off, rfl, fun j hj => ?_, World.block_lt_of_cell? w _ hc⟩
  obtain ⟨b', off', he, hc'⟩ := h j hj
  simp at he
  obtain ⟨rfl, rfl⟩ := he
  exact hc'
theorem CellsS.below {B : Nat} {w w' : World} {ao : Option Addr} {ss : List ByteArray} (h : CellsS w ao ss) (hb : Below B w w') (hB : w.heap.size ≤ B) : CellsS w' ao ss := by
  intro i hi
  obtain ⟨b, off, rfl, hc⟩ := h i hi
  exact ⟨b, off, rfl, (hb.cell (p := ⟨b, off + i, none⟩) (Nat.lt_of_lt_of_le (World.block_lt_of_cell? w _ hc) hB)).trans hc⟩
theorem CellsS.dr {w w' : World} {ao : Option Addr} {ss : List ByteArray} (h : CellsS w ao ss) (hd : Dr w w') : CellsS w' ao ss := by
  obtain ⟨n, rfl⟩ := hd
  exact h
theorem cells_of_rowS {w : World} {x : Addr} {len : Nat} {zs : List ByteArray} (hlen : len ≤ zs.length) (h : ∀ i, i < zs.length → w.cell? (x.add i) = some (.string (zs.getD i ByteArray.empty))) :
    CellsS w (some x) (zs.take len) := by
  intro i hi
  simp only [List.length_take] at hi
  have hi2 : i < zs.length := by omega
  obtain ⟨b, off, spot⟩ := x
  have hspot : spot = none := by simpa [Addr.add] using World.cell?_spot (h 0 (by omega))
  subst hspot
  refine ⟨b, off, rfl, ?_⟩
  rw [← Go.WideShapes.add_plain, h i hi2]
  have h2 : i < len := by omega
  simp [rowOf, hi2, h2]
/-- A callee that leaves the world alone, inside a region that draws its order. -/
theorem quiet_eq {P : Program} {f : FuncId} {args : Array Value} {w : World} {n : Nat} {v : Value}
    (h : Calls P f args (w.drewN n) fun e w' => e = .returned v ∧ w.drewN n = w') : Calls P f args (w.drewN n) fun e w'' => e = .returned v ∧ ∃ m, w'' = w.drewN m :=
  h.mono fun _ _ ⟨he, hm⟩ => ⟨he, n, hm.symm⟩
theorem quiet_dr {P : Program} {f : FuncId} {args : Array Value} {w : World} {n : Nat} {v : Value}
    (h : Calls P f args (w.drewN n) fun e w' => e = .returned v ∧ Dr (w.drewN n) w') : Calls P f args (w.drewN n) fun e w'' => e = .returned v ∧ ∃ m, w'' = w.drewN m :=
  h.mono fun _ _ ⟨he, m, hm⟩ => ⟨he, n + m, by rw [hm, World.drewN_drewN]⟩
theorem below_dn {B : Nat} {a w : World} (h : Below B a w) (n : Nat) : Below B a (w.drewN n) := h.trans ⟨rfl, rfl, rfl, Nat.le_refl _, fun _ _ => rfl⟩
end Go.Proofs.Ytebcnfemkchfjaa
