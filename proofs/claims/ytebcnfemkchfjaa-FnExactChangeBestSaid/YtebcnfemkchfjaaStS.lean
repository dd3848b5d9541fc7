/- The memory of a law's walk: pieces of texts; two walks behind one another. -/
import Derived.Test.YtebcnfemkchfjaaHelpSW
import Derived.Test.YtebcnfemkchfjaaAppend
namespace Go.Proofs.Ytebcnfemkchfjaa
open Go.RowKit
set_option linter.unusedVariables false
set_option linter.unusedSimpArgs false

/-- What was made behind what had been made. -/
theorem St.join {w0 w1 W : World} {a b : List Seg} (h : St w0 w1 a) (k : St w1 W b) : St w0 W (b ++ a) := by
  refine ⟨h.below.trans (k.below.mono h.size), fun s hs => ?_, List.pairwise_append.2 ⟨k.apart, h.apart, fun s hs t ht => ?_⟩⟩
  · rcases List.mem_append.1 hs with hs | hs
    · exact (k.own s hs).mono h.size
    · exact (h.own s hs).below k.below (Nat.le_refl _)
  · have h1 := (h.own t ht).lt
    have h2 := (k.own s hs).lt
    exact ⟨apart_of' (v1 := t.v) (v2 := s.v) (n := w1.heap.size) (fun k hk => (h1 k hk).2) (fun k hk => (h2 k hk).1), apart_of (v1 := t.v) (v2 := s.v) (n := w1.heap.size) (fun k hk => (h1 k hk).2) (fun k hk => (h2 k hk).1)⟩
theorem St.textsAt {w0 W : World} {segs : List Seg} (h : St w0 W segs) {ao : Option Addr} {n cap : Nat} {ss : List ByteArray} (i : Nat) (hi : segs[i]? = some (SS (.slice ao n cap) ss)) : CellsS W ao ss ∧ ss.length ≤ maxLen := by
  obtain ⟨a', c', he, hl, hc⟩ := SS_shape (h.own _ (List.mem_of_getElem? hi))
  cases he
  exact ⟨hc, hl⟩
theorem St.texts {w0 W : World} {segs : List Seg} (h : St w0 W segs) {ao : Option Addr} {n cap : Nat} {ss : List ByteArray} (i : Nat) (hi : segs[i]? = some (SS (.slice ao n cap) ss)) : CellsS W ao ss := (h.textsAt i hi).1
theorem St.oldS {w0 W : World} {segs : List Seg} (h : St w0 W segs) {ao : Option Addr} {ss : List ByteArray} (hx : CellsS w0 ao ss) : CellsS W ao ss := hx.below h.below (Nat.le_refl _)
theorem St.shapeS {w0 W : World} {segs : List Seg} (h : St w0 W segs) {v : Value} {ss : List ByteArray} (i : Nat) (hi : segs[i]? = some (SS v ss)) : ∃ ao cap, v = .slice ao ss.length cap := by
  obtain ⟨a', c', he, _⟩ := SS_shape (h.own _ (List.mem_of_getElem? hi))
  exact ⟨a', c', he⟩
theorem St.shapeI {w0 W : World} {segs : List Seg} (h : St w0 W segs) {v : Value} {xs : List Int} (i : Nat) (hi : segs[i]? = some (SI v xs)) : ∃ ao cap, v = .slice ao xs.length cap := (h.get i hi).shape2
theorem St.shapeI0 {w0 W : World} {segs : List Seg} {v : Value} {xs : List Int} (h : St w0 W (SI v xs :: segs)) : ∃ ao cap, v = .slice ao xs.length cap := h.shapeI 0 rfl
theorem sizes_max {ss : List ByteArray} (h : ∀ s ∈ ss, 1 ≤ s.size ∧ s.size ≤ 5) : ∀ s ∈ ss, s.size ≤ maxLen := fun s hs => by have := h s hs; unfold maxLen; omega
/-- A cell of a piece of numbers. -/
theorem St.cellAt {w0 W : World} {segs : List Seg} (h : St w0 W segs) {ao : Option Addr} {n cap : Nat} {xs : List Int} (i : Nat) (hi : segs[i]? = some (SI (.slice ao n cap) xs)) {j : Nat} (hj : j < xs.length) :
    ∃ b off, ao = some ⟨b, off, none⟩ ∧ W.cell? ⟨b, off + j, none⟩ = some (.int .i64 (xs.getD j 0)) := h.cells i hi j hj
theorem St.textAt {w0 W : World} {segs : List Seg} (h : St w0 W segs) {ao : Option Addr} {n cap : Nat} {ss : List ByteArray} (i : Nat) (hi : segs[i]? = some (SS (.slice ao n cap) ss)) {j : Nat} (hj : j < ss.length) :
    ∃ b off, ao = some ⟨b, off, none⟩ ∧ W.cell? ⟨b, off + j, none⟩ = some (.string (rowOf ss j)) := h.texts i hi j hj
end Go.Proofs.Ytebcnfemkchfjaa
