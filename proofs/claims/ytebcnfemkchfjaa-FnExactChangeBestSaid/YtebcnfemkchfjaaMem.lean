/- Small facts on memory that every contract of this seat uses: a slice of numbers that is read, one that the call owns. -/
import Derived.Test.YtebcnfemkchfjaaProg
import Derived.WalkKit
import Derived.ProofKit
import Derived.OpenShut
import Derived.Handy
import Derived.Deep.QuietTactic
import Derived.BigQuiet
import Derived.WalkSpells
import Derived.Lib.Hide
namespace Go.Proofs.Ytebcnfemkchfjaa
open Go.RowKit

/-- The numbers xs lie at ao. -/
def CellsI (w : World) (ao : Option Addr) (xs : List Int) : Prop :=
  ∀ i, i < xs.length → ∃ b off, ao = some ⟨b, off, none⟩ ∧ w.cell? ⟨b, off + i, none⟩ = some (.int .i64 (xs.getD i 0))

theorem CellsI.at {w : World} {ao : Option Addr} {xs : List Int} (h : CellsI w ao xs) {i : Nat} (hi : i < xs.length) :
    ∃ b off, ao = some ⟨b, off, none⟩ ∧ (∀ j, j < xs.length → w.cell? ⟨b, off + j, none⟩ = some (.int .i64 (xs.getD j 0))) ∧ b < w.heap.size := by
  obtain ⟨b, off, rfl, hc⟩ := h i hi
  refine ⟨b, off, rfl, fun j hj => ?_, World.block_lt_of_cell? w _ hc⟩
  obtain ⟨b', off', he, hc'⟩ := h j hj
  simp at he
  obtain ⟨rfl, rfl⟩ := he
  exact hc'

theorem CellsI.below {B : Nat} {w w' : World} {ao : Option Addr} {xs : List Int} (h : CellsI w ao xs) (hb : Below B w w') (hB : w.heap.size ≤ B) : CellsI w' ao xs := by
  intro i hi
  obtain ⟨b, off, rfl, hc⟩ := h i hi
  exact ⟨b, off, rfl, (hb.cell (p := ⟨b, off + i, none⟩) (Nat.lt_of_lt_of_le (World.block_lt_of_cell? w _ hc) hB)).trans hc⟩

theorem CellsI.nil (w : World) (ao : Option Addr) : CellsI w ao [] := fun i hi => by simp at hi

theorem CellsI.of {w w' : World} {ao : Option Addr} {xs : List Int} (h : CellsI w ao xs) (hs : ∀ b o, b < w.heap.size → w'.cell? ⟨b, o, none⟩ = w.cell? ⟨b, o, none⟩) : CellsI w' ao xs := by
  intro i hi
  obtain ⟨b, off, rfl, hc⟩ := h i hi
  exact ⟨b, off, rfl, (hs _ _ (World.block_lt_of_cell? w _ hc)).trans hc⟩

/-- The slice v is the call's own, from block base on, and holds xs. -/
def OwnI (w : World) (base : Nat) (v : Value) (xs : List Int) : Prop := w.ownsRow base 3 1 v xs.length (xs.map (Value.int .i64))

theorem OwnI.shape {w : World} {base : Nat} {v : Value} {xs : List Int} (h : OwnI w base v xs) :
    ∃ ao cap, v = .slice ao xs.length cap ∧ xs.length ≤ cap ∧ cap ≤ maxLen ∧ CellsI w ao xs ∧ (∀ a, ao = some a → base ≤ a.block ∧ a.block < w.heap.size) ∧
      ((ao = none ∧ cap = 0 ∧ xs = []) ∨ ∃ g, ao = some ⟨g, 0, none⟩ ∧ ∀ j, w.frozen? ⟨g, j, none⟩ = false) := by
  obtain ⟨hl, h2⟩ := id h
  rcases h2 with ⟨rfl, hn⟩ | ⟨g, cap, cur, rfl, hb, hg, hnc, hcm, hcs, htake⟩
  · have : xs = [] := List.eq_nil_of_length_eq_zero hn
    subst this
    exact ⟨none, 0, rfl, Nat.le_refl _, Nat.zero_le _, CellsI.nil _ _, by simp, .inl ⟨rfl, rfl, rfl⟩⟩
  · refine ⟨_, cap, rfl, hnc, hcm, ?_, ?_, .inr ⟨g, rfl, fun j => h.frozenAt j⟩⟩
    · intro i hi
      refine ⟨g, 0, rfl, ?_⟩
      have := h.cellAt i (by omega)
      rw [Nat.zero_add, this]
      simp [hi]
    · intro a ha
      simp at ha
      subst ha
      exact ⟨hb, (Array.getElem?_eq_some_iff.1 hg).1⟩

theorem OwnI.mono {w : World} {base base' : Nat} {v : Value} {xs : List Int} (h : OwnI w base v xs) (hb : base' ≤ base) : OwnI w base' v xs := by
  obtain ⟨hl, h2⟩ := h
  refine ⟨hl, ?_⟩
  rcases h2 with h2 | ⟨g, cap, cur, hv, hg, r⟩
  · exact .inl h2
  · exact .inr ⟨g, cap, cur, hv, by omega, r⟩

theorem OwnI.below {w w' : World} {base B : Nat} {v : Value} {xs : List Int} (h : OwnI w base v xs) (hb : Below B w w') (hB : w.heap.size ≤ B) : OwnI w' base v xs := by
  obtain ⟨hl, h2⟩ := h
  refine ⟨hl, ?_⟩
  rcases h2 with h2 | ⟨g, cap, cur, hv, hg, hh, r⟩
  · exact .inl h2
  · refine .inr ⟨g, cap, cur, hv, hg, ?_, r⟩
    rw [hb.block g (Nat.lt_of_lt_of_le (Array.getElem?_eq_some_iff.1 hh).1 hB)]
    exact hh

theorem ret_int {k : IntKind} {a b : Int} (h : a = b) : Ending.returned (.int k a) = .returned (.int k b) := by rw [h]
theorem ret_bool {a b : Bool} (h : a = b) : Ending.returned (.bool a) = .returned (.bool b) := by rw [h]

theorem intInfo : (Try.prog.info? 3).map (fun i => (i.zero, i.size, i.bytes)) = some (some (.int .i64 0), 1, 8) := by kernel_rfl

/-- 'make([]int, n)' at the operation. -/
theorem wpMakeI (w : World) {ops : Array Oper} {rest : List Oper} {o : Oper} {a : Act} {Q : Exit → Act → World → Prop}
    (hg : o.guard = none) (l c : Operand) (hop : o.op = Op.makeSlice 35 l c) (base n : Nat) (kl kc : IntKind) (L C : Int)
    (hl : a.eval l = .int kl L) (hc : a.eval c = .int kc C) (hL : L = (n : Int)) (hC : C = (n : Int)) (b : n ≤ 4194304) (hb : base ≤ w.heap.size)
    (hK : ∀ w', OwnI w' base (.slice (some ⟨w.heap.size, 0, none⟩) n n) (List.replicate n 0) → w.grownBy w' none → wpList Try.prog ops Q rest (a.put o.dst (.slice (some ⟨w.heap.size, 0, none⟩) n n)) w') :
    wpList Try.prog ops Q (o :: rest) a w := by
  obtain ⟨i0, hi, hz0, hz1, hz2⟩ := info_parts intInfo
  refine wpList_make_full w hg l c 35 hop base 3 i0 (.int .i64 0) 1 Try.underlying35 hi hz0 hz1 kl kc L C n hl hc hL hC (by rw [hz2]; omega) (by unfold maxLen; omega) hb ?_
  intro w' h1 h2
  refine hK w' ?_ h2
  have e : (madeCells (Value.int .i64 0).cells (n * 1)).toList = (List.replicate n (0 : Int)).map (Value.int .i64) := by
    apply List.ext_getElem
    · simp [madeCells, Value.cells]
    · intro i h1 h2
      simp [madeCells, Value.cells, Nat.mod_one]
  unfold OwnI
  rw [← e, List.length_replicate]
  exact h1

/-- A store into a place of an owned slice. -/
theorem OwnI.stored {w : World} {base g cap : Nat} {xs : List Int} (h : OwnI w base (.slice (some ⟨g, 0, none⟩) xs.length cap) xs) (j : Nat) (x : Int) :
    OwnI (w.setCell ⟨g, j, none⟩ (.int .i64 x)) base (.slice (some ⟨g, 0, none⟩) xs.length cap) (xs.set j x) ∧ w.grownBy (w.setCell ⟨g, j, none⟩ (.int .i64 x)) (some g) := by
  have := World.ownsRow.stored h j (.int .i64 x)
  refine ⟨?_, this.2⟩
  unfold OwnI
  rw [List.length_set, List.map_set]
  exact this.1

theorem grownBy_refl (w : World) (row : Option Nat) : w.grownBy w row := ⟨rfl, rfl, rfl, Nat.le_refl _, fun _ _ _ => rfl⟩
theorem grownBy_trans {a b c : World} {row : Option Nat} (h : a.grownBy b row) (k : b.grownBy c row) : a.grownBy c row :=
  ⟨k.os.trans h.os, k.tape.trans h.tape, k.output.trans h.output, Nat.le_trans h.size k.size, fun i hi hr => (k.block i (Nat.lt_of_lt_of_le hi h.size) hr).trans (h.block i hi hr)⟩
/-- What another slice owns stays while the block 'row' is written. -/
theorem OwnI.kept {w w' : World} {base : Nat} {v : Value} {xs : List Int} {row : Option Nat} (h : OwnI w base v xs) (hg : w.grownBy w' row) (hne : v.ownBlock = none ∨ v.ownBlock ≠ row) : OwnI w' base v xs :=
  World.ownsRow.kept h hg hne
theorem CellsI.kept {w w' : World} {ao : Option Addr} {xs : List Int} {row : Option Nat} (h : CellsI w ao xs) (hg : w.grownBy w' row) (hne : ∀ a, ao = some a → row ≠ some a.block) : CellsI w' ao xs := by
  intro i hi
  obtain ⟨b, off, rfl, hc⟩ := h i hi
  exact ⟨b, off, rfl, hg.cell hc (fun e => hne _ rfl e.symm)⟩
theorem OwnI.lt {w : World} {base : Nat} {v : Value} {xs : List Int} (h : OwnI w base v xs) : ∀ k, v.ownBlock = some k → base ≤ k ∧ k < w.heap.size := World.ownsRow.lt h
theorem Below.of_grown {w w' : World} {row : Option Nat} {B : Nat} (hg : w.grownBy w' row) (hB : B ≤ w.heap.size) (hr : ∀ k, row = some k → B ≤ k) : Below B w w' :=
  (Below.refl B w).grown hg hB hr

/-- w' is w behind some draws. -/
def Dr (w w' : World) : Prop := ∃ n, w' = w.drewN n
theorem Dr.refl (w : World) : Dr w w := ⟨0, rfl⟩
theorem Dr.trans {a b c : World} (h : Dr a b) (k : Dr b c) : Dr a c := by
  obtain ⟨n, rfl⟩ := h
  obtain ⟨m, rfl⟩ := k
  exact ⟨n + m, by simp⟩
theorem Dr.more {a b : World} (h : Dr a b) (n : Nat) : Dr a (b.drewN n) := h.trans ⟨n, rfl⟩
theorem Dr.two (w : World) (n m : Nat) : Dr w ((w.drewN n).drewN m) := ⟨n + m, by simp⟩
theorem Dr.below {w w' : World} (h : Dr w w') (B : Nat) : Below B w w' := by
  obtain ⟨n, rfl⟩ := h
  exact (Below.refl B w).trans ⟨rfl, rfl, rfl, Nat.le_refl _, fun _ _ => rfl⟩
theorem CellsI.dr {w w' : World} {ao : Option Addr} {xs : List Int} (h : CellsI w ao xs) (hd : Dr w w') : CellsI w' ao xs := by
  obtain ⟨n, rfl⟩ := hd
  exact h
theorem CellsI.drewN {w : World} {ao : Option Addr} {xs : List Int} (h : CellsI w ao xs) (n : Nat) : CellsI (w.drewN n) ao xs := h

theorem cells_of_row {w : World} {x : Addr} {len : Nat} {zs : List Int} (hlen : len ≤ zs.length) (h : ∀ i, i < zs.length → w.cell? (x.add i) = some (.int .i64 (zs.getD i 0))) :
    CellsI w (some x) (zs.take len) := by
  intro i hi
  simp only [List.length_take] at hi
  obtain ⟨b, off, rfl, hc⟩ := ints_at h (by omega)
  refine ⟨b, off, rfl, ?_⟩
  rw [hc i (by omega)]
  have : i < zs.length := by omega
  have h2 : i < len := by omega
  simp [this, h2]

/-- Two owned slices, of which one was made before the other, lie in different blocks. -/
theorem apart_of {v1 v2 : Value} {n : Nat} (h1 : ∀ k, v1.ownBlock = some k → k < n) (h2 : ∀ k, v2.ownBlock = some k → n ≤ k) : v1.ownBlock = none ∨ v1.ownBlock ≠ v2.ownBlock := by
  cases e : v1.ownBlock with
  | none => exact .inl rfl
  | some k => exact .inr fun e2 => by have := h1 k e; have := h2 k e2.symm; omega
theorem apart_of' {v1 v2 : Value} {n : Nat} (h1 : ∀ k, v1.ownBlock = some k → k < n) (h2 : ∀ k, v2.ownBlock = some k → n ≤ k) : v2.ownBlock = none ∨ v2.ownBlock ≠ v1.ownBlock := by
  rcases apart_of h1 h2 with h | h
  · cases e : v2.ownBlock with
    | none => exact .inl rfl
    | some k => exact .inr fun e2 => by rw [h] at e2; cases e2
  · exact .inr fun e => h e.symm
/-- Old memory is not in a block of the call's own. -/
theorem cells_apart {w : World} {ao : Option Addr} {xs : List Int} {v : Value} {n : Nat} (h : CellsI w ao xs) (hs : w.heap.size ≤ n) (h2 : ∀ k, v.ownBlock = some k → n ≤ k) {w1 w2 : World} (h1 : CellsI w1 ao xs) (hg : w1.grownBy w2 v.ownBlock) : CellsI w2 ao xs := by
  intro i hi
  obtain ⟨b, off, rfl, hc⟩ := h i hi
  obtain ⟨b', off', he, hc'⟩ := h1 i hi
  simp at he
  obtain ⟨rfl, rfl⟩ := he
  have hb := World.block_lt_of_cell? w _ hc
  refine ⟨b, off, rfl, hg.cell hc' (fun e => ?_)⟩
  have := h2 b e.symm
  simp at hb
  omega

end Go.Proofs.Ytebcnfemkchfjaa
