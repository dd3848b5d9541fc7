/- The memory of a law's walk: what the call has made so far, each piece in a block of its own; nothing that was there has turned. -/
import Derived.Test.YtebcnfemkchfjaaSmall
namespace Go.Proofs.Ytebcnfemkchfjaa
open Go.RowKit

/-- A piece: the slice's value, its elements' type and cells, how many, the cells. -/
structure Seg where
  v : Value
  ty : TypeId
  size : Nat
  n : Nat
  xs : List Value

def Seg.own (s : Seg) (w : World) (base : Nat) : Prop := w.ownsRow base s.ty s.size s.v s.n s.xs
def SI (v : Value) (xs : List Int) : Seg := ⟨v, 3, 1, xs.length, xs.map (Value.int .i64)⟩
theorem SI_own {v : Value} {xs : List Int} {w : World} {base : Nat} : (SI v xs).own w base ↔ OwnI w base v xs := Iff.rfl

def Apart (s t : Seg) : Prop := (s.v.ownBlock = none ∨ s.v.ownBlock ≠ t.v.ownBlock) ∧ (t.v.ownBlock = none ∨ t.v.ownBlock ≠ s.v.ownBlock)

structure St (w0 W : World) (segs : List Seg) : Prop where
  below : Below w0.heap.size w0 W
  own : ∀ s ∈ segs, s.own W w0.heap.size
  apart : segs.Pairwise Apart

theorem Seg.own.lt {s : Seg} {w : World} {base : Nat} (h : s.own w base) : ∀ k, s.v.ownBlock = some k → base ≤ k ∧ k < w.heap.size := World.ownsRow.lt h
theorem Seg.own.below {s : Seg} {w w' : World} {base B : Nat} (h : s.own w base) (hb : Below B w w') (hB : w.heap.size ≤ B) : s.own w' base := by
  obtain ⟨hl, h2⟩ := h
  refine ⟨hl, ?_⟩
  rcases h2 with h2 | ⟨g, cap, cur, hv, hg, hh, r⟩
  · exact .inl h2
  · refine .inr ⟨g, cap, cur, hv, hg, ?_, r⟩
    rw [hb.block g (Nat.lt_of_lt_of_le (Array.getElem?_eq_some_iff.1 hh).1 hB)]
    exact hh
theorem Seg.own.mono {s : Seg} {w : World} {base base' : Nat} (h : s.own w base) (hb : base' ≤ base) : s.own w base' := by
  obtain ⟨hl, h2⟩ := h
  refine ⟨hl, ?_⟩
  rcases h2 with h2 | ⟨g, cap, cur, hv, hg, r⟩
  · exact .inl h2
  · exact .inr ⟨g, cap, cur, hv, by omega, r⟩

theorem St.init (w : World) : St w w [] := ⟨Below.refl _ _, by simp, List.Pairwise.nil⟩
theorem St.size {w0 W : World} {segs : List Seg} (h : St w0 W segs) : w0.heap.size ≤ W.heap.size := h.below.size
/-- Something was made, or nothing: all that there was is as it was. -/
theorem St.step {w0 W W' : World} {segs : List Seg} (h : St w0 W segs) (b : Below W.heap.size W W') : St w0 W' segs :=
  ⟨h.below.trans (b.mono h.size), fun s hs => (h.own s hs).below b (Nat.le_refl _), h.apart⟩
theorem St.dr {w0 W W' : World} {segs : List Seg} (h : St w0 W segs) (d : Dr W W') : St w0 W' segs := h.step (d.below _)
/-- A slice was made. -/
theorem St.addSeg {w0 W W' : World} {segs : List Seg} (h : St w0 W segs) {s : Seg} (o : s.own W' W.heap.size) (b : Below W.heap.size W W') : St w0 W' (s :: segs) := by
  refine ⟨(h.step b).below, fun t ht => ?_, List.Pairwise.cons (fun t ht => ?_) h.apart⟩
  · rcases List.mem_cons.1 ht with rfl | ht
    · exact o.mono h.size
    · exact (h.step b).own t ht
  · have h1 := (h.own t ht).lt
    have h2 := o.lt
    exact ⟨apart_of' (v1 := t.v) (v2 := s.v) (n := W.heap.size) (fun k hk => (h1 k hk).2) (fun k hk => (h2 k hk).1), apart_of (v1 := t.v) (v2 := s.v) (n := W.heap.size) (fun k hk => (h1 k hk).2) (fun k hk => (h2 k hk).1)⟩
theorem St.add {w0 W W' : World} {segs : List Seg} (h : St w0 W segs) {v : Value} {xs : List Int} (o : OwnI W' W.heap.size v xs) (b : Below W.heap.size W W') : St w0 W' (SI v xs :: segs) :=
  h.addSeg (s := SI v xs) o b
/-- One piece is written. -/
theorem St.writeSeg {w0 W W' : World} (pre post : List Seg) (s s' : Seg) (h : St w0 W (pre ++ s :: post)) (hv : s'.v = s.v) (o : s'.own W' w0.heap.size) (g : W.grownBy W' s.v.ownBlock) :
    St w0 W' (pre ++ s' :: post) := by
  have hs := h.own s (by simp)
  have hap := List.pairwise_append.1 h.apart
  have hap2 := List.pairwise_cons.1 hap.2.1
  have other : ∀ t : Seg, t.own W w0.heap.size → Apart s t → t.own W' w0.heap.size := fun t ht ha => World.ownsRow.kept ht g ha.2
  have other2 : ∀ t : Seg, t.own W w0.heap.size → Apart t s → t.own W' w0.heap.size := fun t ht ha => World.ownsRow.kept ht g ha.1
  refine ⟨h.below.trans (Below.of_grown g h.size fun k hk => (hs.lt k hk).1), fun t ht => ?_, ?_⟩
  · rcases List.mem_append.1 ht with ht | ht
    · exact other2 t (h.own t (by simp [ht])) (hap.2.2 t ht s (by simp))
    · rcases List.mem_cons.1 ht with rfl | ht
      · exact o
      · exact other t (h.own t (by simp [ht])) (hap2.1 t ht)
  · refine List.pairwise_append.2 ⟨hap.1, List.pairwise_cons.2 ⟨fun t ht => ?_, hap2.2⟩, fun a ha t ht => ?_⟩
    · have := hap2.1 t ht
      unfold Apart at this ⊢
      rw [hv]; exact this
    · rcases List.mem_cons.1 ht with rfl | ht
      · have := hap.2.2 a ha s (by simp)
        unfold Apart at this ⊢
        rw [hv]; exact this
      · exact hap.2.2 a ha t (by simp [ht])
theorem St.write0 {w0 W W' : World} {v : Value} {xs ys : List Int} {post : List Seg} (h : St w0 W (SI v xs :: post)) (o : OwnI W' w0.heap.size v ys) (g : W.grownBy W' v.ownBlock) : St w0 W' (SI v ys :: post) :=
  St.writeSeg [] post (SI v xs) (SI v ys) h rfl o g
theorem St.write1 {w0 W W' : World} {a : Seg} {v : Value} {xs ys : List Int} {post : List Seg} (h : St w0 W (a :: SI v xs :: post)) (o : OwnI W' w0.heap.size v ys) (g : W.grownBy W' v.ownBlock) : St w0 W' (a :: SI v ys :: post) :=
  St.writeSeg [a] post (SI v xs) (SI v ys) h rfl o g
theorem St.write2 {w0 W W' : World} {a b : Seg} {v : Value} {xs ys : List Int} {post : List Seg} (h : St w0 W (a :: b :: SI v xs :: post)) (o : OwnI W' w0.heap.size v ys) (g : W.grownBy W' v.ownBlock) : St w0 W' (a :: b :: SI v ys :: post) :=
  St.writeSeg [a, b] post (SI v xs) (SI v ys) h rfl o g
theorem St.write3 {w0 W W' : World} {a b c : Seg} {v : Value} {xs ys : List Int} {post : List Seg} (h : St w0 W (a :: b :: c :: SI v xs :: post)) (o : OwnI W' w0.heap.size v ys) (g : W.grownBy W' v.ownBlock) : St w0 W' (a :: b :: c :: SI v ys :: post) :=
  St.writeSeg [a, b, c] post (SI v xs) (SI v ys) h rfl o g
/-- A piece that is wanted. -/
theorem St.get {w0 W : World} {segs : List Seg} (h : St w0 W segs) {v : Value} {xs : List Int} (i : Nat) (hi : segs[i]? = some (SI v xs)) : OwnI W w0.heap.size v xs :=
  h.own _ (List.mem_of_getElem? hi)
theorem OwnI.cells {w : World} {base : Nat} {ao : Option Addr} {n cap : Nat} {xs : List Int} (h : OwnI w base (.slice ao n cap) xs) : CellsI w ao xs := by
  obtain ⟨a', c', he, _, _, hc, _⟩ := h.shape
  cases he
  exact hc
theorem OwnI.len {w : World} {base : Nat} {v : Value} {xs : List Int} (h : OwnI w base v xs) : xs.length ≤ maxLen := by
  obtain ⟨a', c', he, h1, h2, _⟩ := h.shape
  omega
/-- The numbers of a piece of the list. -/
theorem St.cells {w0 W : World} {segs : List Seg} (h : St w0 W segs) {ao : Option Addr} {n cap : Nat} {xs : List Int} (i : Nat) (hi : segs[i]? = some (SI (.slice ao n cap) xs)) : CellsI W ao xs :=
  (h.get i hi).cells
theorem St.len {w0 W : World} {segs : List Seg} (h : St w0 W segs) {v : Value} {xs : List Int} (i : Nat) (hi : segs[i]? = some (SI v xs)) : xs.length ≤ maxLen := (h.get i hi).len
/-- What came in reads as it did. -/
theorem St.old {w0 W : World} {segs : List Seg} (h : St w0 W segs) {ao : Option Addr} {xs : List Int} (hx : CellsI w0 ao xs) : CellsI W ao xs := hx.below h.below (Nat.le_refl _)
theorem OwnI.shape2 {w : World} {base : Nat} {v : Value} {xs : List Int} (h : OwnI w base v xs) : ∃ ao cap, v = .slice ao xs.length cap := by
  obtain ⟨a', c', he, _⟩ := h.shape
  exact ⟨a', c', he⟩

theorem OwnI.alloc {w : World} {base : Nat} {v : Value} {xs : List Int} (h : OwnI w base v xs) (o : Obj) : OwnI (w.alloc o) base v xs := World.ownsRow.alloc h o
/-- A store at place j of an owned slice: what the walk asks, and what it leaves. -/
theorem OwnI.put {w : World} {base g n cap : Nat} {xs : List Int} (h : OwnI w base (.slice (some ⟨g, 0, none⟩) n cap) xs) (j : Nat) (hj : j < xs.length) :
    (∃ u, w.cell? ⟨g, j, none⟩ = some u) ∧ w.frozen? ⟨g, j, none⟩ = false ∧
      ∀ x : Int, OwnI (w.setCell ⟨g, j, none⟩ (.int .i64 x)) base (.slice (some ⟨g, 0, none⟩) n cap) (xs.set j x) := by
  obtain ⟨a', c', he, _⟩ := h.shape
  have hn : n = xs.length := by injection he
  subst hn
  refine ⟨⟨_, (World.ownsRow.cellAt h j (by omega)).trans (List.getElem?_eq_getElem (by simpa using hj))⟩, World.ownsRow.frozenAt h j, fun x => (h.stored j x).1⟩

/-- 'append(s, y)' at the operation, s the call's own. -/
theorem wpAppendI (w : World) {ops : Array Oper} {rest : List Oper} {o : Oper} {a : Act} {Q : Exit → Act → World → Prop}
    (hg : o.guard = none) (s x : Operand) (ho : o.op = .call { callee := .builtin .append, args := #[s, x], argTypes := #[35, 35] }) (base : Nat) (v : Value) (xs : List Int) (y : Int) (ad : Addr)
    (hs : a.eval s = v) (hown : OwnI w base v xs) (hx : a.eval x = .slice (some ad) 1 1) (hc : ∀ (j : Nat) (u : Value), [Value.int .i64 y][j]? = some u → w.cell? (ad.add j) = some u) (hl : xs.length ≤ 4194304) (hb : base ≤ w.heap.size)
    (hK : ∀ v' w', OwnI w' base v' (xs ++ [y]) → w.grownBy w' v.ownBlock → wpList Try.prog ops Q rest (a.put o.dst v') w') : wpList Try.prog ops Q (o :: rest) a w := by
  obtain ⟨i0, hi, hz0, hz1, hz2⟩ := info_parts intInfo
  refine wpList_append_own w hg s x 35 ho base 3 i0 (.int .i64 0) 1 8 Try.underlying35 hi hz0 hz1 hz2 rfl (by decide) v xs.length (xs.map (Value.int .i64)) hs hown ad 1 1 [.int .i64 y] hx rfl hc ?_ ?_ ?_ hb ?_
  · intro u hu; simp at hu; subst hu; rfl
  · unfold maxLen; omega
  · omega
  · intro v' w' h1 h2 _
    refine hK v' w' ?_ h2
    unfold OwnI
    rw [List.length_append, List.map_append]
    exact h1
/-- A store into another block. -/
theorem cell_put_ne {w : World} {p a : Addr} {u x : Value} (h : w.cell? a = some x) (hne : a.block ≠ p.block) : (w.setCell p u).cell? a = some x :=
  (World.cell?_of_block (w := w) (Below.heap_setCell w p u a.block hne)).trans h
end Go.Proofs.Ytebcnfemkchfjaa
