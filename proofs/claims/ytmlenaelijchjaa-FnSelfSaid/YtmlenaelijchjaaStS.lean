/- Small facts on memory that every contract of this seat uses: a slice of numbers that is read, one that the call owns. -/
/- Contracts of the small functions that only compute with numbers. -/
/- Grids as lists of texts: plain facts. -/
/- The memory of a law's walk: what the call has made so far, each piece in a block of its own; nothing that was there has turned. -/
/- Contracts of the law files' small helpers on lists of texts. -/
/- Appends whose slice may move to a new block, in the state of a law's walk. -/
/- The memory of a law's walk: pieces of texts; two walks behind one another. -/
import Derived.Test.YtmlenaelijchjaaProg
import Derived.WalkKit
import Derived.ProofKit
import Derived.OpenShut
import Derived.Handy
import Derived.Deep.QuietTactic
import Derived.BigQuiet
import Derived.WalkSpells
import Derived.Lib.Hide
import Derived.ArgAppend
import Derived.Deep.RegionLaw
namespace Go.Proofs.Ytmlenaelijchjaa
open Go.RowKit
set_option linter.unusedVariables false
set_option linter.unusedSimpArgs false

/-- The numbers xs lie at ao. -/
def CellsI (w : World) (ao : Option Addr) (xs : List Int) : Prop :=
  ∀ i, i < xs.length → ∃ b off, ao = some ⟨b, off, none⟩ ∧ w.cell? ⟨b, off + i, none⟩ = some (.int .i64 (xs.getD i 0))

theorem CellsI.at {w : World} {ao : Option Addr} {xs : List Int} (h : CellsI w ao xs) {i : Nat} (hi : i < xs.length) :
    ∃ b off, ao = some ⟨b, off, none⟩ ∧ (∀ j, j < xs.length → w.cell? ⟨b, off + j, none⟩ = some (.int .i64 (xs.getD j 0))) ∧ b < w.heap.size := by
  obtain ⟨b, off, rfl, hc⟩ := h i hi
  refine ⟨b, off, rfl, fun j hj => ?_, World.block_lt_of_cell? w _ hc⟩
  obtain ⟨b', off', he, hc'⟩ := h j hj
  simp at he
  obtain ⟨rfl, rfl⟩ := he
  exact hc'

theorem CellsI.below {B : Nat} {w w' : World} {ao : Option Addr} {xs : List Int} (h : CellsI w ao xs) (hb : Below B w w') (hB : w.heap.size ≤ B) : CellsI w' ao xs := by
  intro i hi
  obtain ⟨b, off, rfl, hc⟩ := h i hi
  exact ⟨b, off, rfl, (hb.cell (p := ⟨b, off + i, none⟩) (Nat.lt_of_lt_of_le (World.block_lt_of_cell? w _ hc) hB)).trans hc⟩

theorem CellsI.nil (w : World) (ao : Option Addr) : CellsI w ao [] := fun i hi => by simp at hi

theorem CellsI.of {w w' : World} {ao : Option Addr} {xs : List Int} (h : CellsI w ao xs) (hs : ∀ b o, b < w.heap.size → w'.cell? ⟨b, o, none⟩ = w.cell? ⟨b, o, none⟩) : CellsI w' ao xs := by
  intro i hi
  obtain ⟨b, off, rfl, hc⟩ := h i hi
  exact ⟨b, off, rfl, (hs _ _ (World.block_lt_of_cell? w _ hc)).trans hc⟩

/-- The slice v is the call's own, from block base on, and holds xs. -/
def OwnI (w : World) (base : Nat) (v : Value) (xs : List Int) : Prop := w.ownsRow base 3 1 v xs.length (xs.map (Value.int .i64))

theorem OwnI.shape {w : World} {base : Nat} {v : Value} {xs : List Int} (h : OwnI w base v xs) :
    ∃ ao cap, v = .slice ao xs.length cap ∧ xs.length ≤ cap ∧ cap ≤ maxLen ∧ CellsI w ao xs ∧ (∀ a, ao = some a → base ≤ a.block ∧ a.block < w.heap.size) ∧
      ((ao = none ∧ cap = 0 ∧ xs = []) ∨ ∃ g, ao = some ⟨g, 0, none⟩ ∧ ∀ j, w.frozen? ⟨g, j, none⟩ = false) := by
  obtain ⟨hl, h2⟩ := id h
  rcases h2 with ⟨rfl, hn⟩ | ⟨g, cap, cur, rfl, hb, hg, hnc, hcm, hcs, htake⟩
  · have : xs = [] := List.eq_nil_of_length_eq_zero hn
    subst this
    exact ⟨none, 0, rfl, Nat.le_refl _, Nat.zero_le _, CellsI.nil _ _, by simp, .inl ⟨rfl, rfl, rfl⟩⟩
  · refine ⟨_, cap, rfl, hnc, hcm, ?_, ?_, .inr ⟨g, rfl, fun j => h.frozenAt j⟩⟩
    · intro i hi
      refine ⟨g, 0, rfl, ?_⟩
      have := h.cellAt i (by omega)
      rw [Nat.zero_add, this]
      simp [hi]
    · intro a ha
      simp at ha
      subst ha
      exact ⟨hb, (Array.getElem?_eq_some_iff.1 hg).1⟩

theorem OwnI.mono {w : World} {base base' : Nat} {v : Value} {xs : List Int} (h : OwnI w base v xs) (hb : base' ≤ base) : OwnI w base' v xs := by
  obtain ⟨hl, h2⟩ := h
  refine ⟨hl, ?_⟩
  rcases h2 with h2 | ⟨g, cap, cur, hv, hg, r⟩
  · exact .inl h2
  · exact .inr ⟨g, cap, cur, hv, by omega, r⟩

theorem OwnI.below {w w' : World} {base B : Nat} {v : Value} {xs : List Int} (h : OwnI w base v xs) (hb : Below B w w') (hB : w.heap.size ≤ B) : OwnI w' base v xs := by
  obtain ⟨hl, h2⟩ := h
  refine ⟨hl, ?_⟩
  rcases h2 with h2 | ⟨g, cap, cur, hv, hg, hh, r⟩
  · exact .inl h2
  · refine .inr ⟨g, cap, cur, hv, hg, ?_, r⟩
    rw [hb.block g (Nat.lt_of_lt_of_le (Array.getElem?_eq_some_iff.1 hh).1 hB)]
    exact hh

theorem ret_int {k : IntKind} {a b : Int} (h : a = b) : Ending.returned (.int k a) = .returned (.int k b) := by rw [h]
theorem ret_bool {a b : Bool} (h : a = b) : Ending.returned (.bool a) = .returned (.bool b) := by rw [h]

theorem intInfo : (Try.prog.info? 3).map (fun i => (i.zero, i.size, i.bytes)) = some (some (.int .i64 0), 1, 8) := by kernel_rfl

/-- 'make([]int, n)' at the operation. -/
theorem wpMakeI (w : World) {ops : Array Oper} {rest : List Oper} {o : Oper} {a : Act} {Q : Exit → Act → World → Prop}
    (hg : o.guard = none) (l c : Operand) (hop : o.op = Op.makeSlice 39 l c) (base n : Nat) (kl kc : IntKind) (L C : Int)
    (hl : a.eval l = .int kl L) (hc : a.eval c = .int kc C) (hL : L = (n : Int)) (hC : C = (n : Int)) (b : n ≤ 4194304) (hb : base ≤ w.heap.size)
    (hK : ∀ w', OwnI w' base (.slice (some ⟨w.heap.size, 0, none⟩) n n) (List.replicate n 0) → w.grownBy w' none → wpList Try.prog ops Q rest (a.put o.dst (.slice (some ⟨w.heap.size, 0, none⟩) n n)) w') :
    wpList Try.prog ops Q (o :: rest) a w := by
  obtain ⟨i0, hi, hz0, hz1, hz2⟩ := info_parts intInfo
  refine wpList_make_full w hg l c 39 hop base 3 i0 (.int .i64 0) 1 Try.underlying39 hi hz0 hz1 kl kc L C n hl hc hL hC (by rw [hz2]; omega) (by unfold maxLen; omega) hb ?_
  intro w' h1 h2
  refine hK w' ?_ h2
  have e : (madeCells (Value.int .i64 0).cells (n * 1)).toList = (List.replicate n (0 : Int)).map (Value.int .i64) := by
    apply List.ext_getElem
    · simp [madeCells, Value.cells]
    · intro i h1 h2
      simp [madeCells, Value.cells, Nat.mod_one]
  unfold OwnI
  rw [← e, List.length_replicate]
  exact h1

/-- A store into a place of an owned slice. -/
theorem OwnI.stored {w : World} {base g cap : Nat} {xs : List Int} (h : OwnI w base (.slice (some ⟨g, 0, none⟩) xs.length cap) xs) (j : Nat) (x : Int) :
    OwnI (w.setCell ⟨g, j, none⟩ (.int .i64 x)) base (.slice (some ⟨g, 0, none⟩) xs.length cap) (xs.set j x) ∧ w.grownBy (w.setCell ⟨g, j, none⟩ (.int .i64 x)) (some g) := by
  have := World.ownsRow.stored h j (.int .i64 x)
  refine ⟨?_, this.2⟩
  unfold OwnI
  rw [List.length_set, List.map_set]
  exact this.1

theorem grownBy_refl (w : World) (row : Option Nat) : w.grownBy w row := ⟨rfl, rfl, rfl, Nat.le_refl _, fun _ _ _ => rfl⟩
theorem grownBy_trans {a b c : World} {row : Option Nat} (h : a.grownBy b row) (k : b.grownBy c row) : a.grownBy c row :=
  ⟨k.os.trans h.os, k.tape.trans h.tape, k.output.trans h.output, Nat.le_trans h.size k.size, fun i hi hr => (k.block i (Nat.lt_of_lt_of_le hi h.size) hr).trans (h.block i hi hr)⟩
/-- What another slice owns stays while the block 'row' is written. -/
theorem OwnI.kept {w w' : World} {base : Nat} {v : Value} {xs : List Int} {row : Option Nat} (h : OwnI w base v xs) (hg : w.grownBy w' row) (hne : v.ownBlock = none ∨ v.ownBlock ≠ row) : OwnI w' base v xs :=
  World.ownsRow.kept h hg hne
theorem CellsI.kept {w w' : World} {ao : Option Addr} {xs : List Int} {row : Option Nat} (h : CellsI w ao xs) (hg : w.grownBy w' row) (hne : ∀ a, ao = some a → row ≠ some a.block) : CellsI w' ao xs := by
  intro i hi
  obtain ⟨b, off, rfl, hc⟩ := h i hi
  exact ⟨b, off, rfl, hg.cell hc (fun e => hne _ rfl e.symm)⟩
theorem OwnI.lt {w : World} {base : Nat} {v : Value} {xs : List Int} (h : OwnI w base v xs) : ∀ k, v.ownBlock = some k → base ≤ k ∧ k < w.heap.size := World.ownsRow.lt h
theorem Below.of_grown {w w' : World} {row : Option Nat} {B : Nat} (hg : w.grownBy w' row) (hB : B ≤ w.heap.size) (hr : ∀ k, row = some k → B ≤ k) : Below B w w' :=
  (Below.refl B w).grown hg hB hr

/-- w' is w behind some draws. -/
def Dr (w w' : World) : Prop := ∃ n, w' = w.drewN n
theorem Dr.refl (w : World) : Dr w w := ⟨0, rfl⟩
theorem Dr.trans {a b c : World} (h : Dr a b) (k : Dr b c) : Dr a c := by
  obtain ⟨n, rfl⟩ := h
  obtain ⟨m, rfl⟩ := k
  exact ⟨n + m, by simp⟩
theorem Dr.more {a b : World} (h : Dr a b) (n : Nat) : Dr a (b.drewN n) := h.trans ⟨n, rfl⟩
theorem Dr.two (w : World) (n m : Nat) : Dr w ((w.drewN n).drewN m) := ⟨n + m, by simp⟩
theorem Dr.below {w w' : World} (h : Dr w w') (B : Nat) : Below B w w' := by
  obtain ⟨n, rfl⟩ := h
  exact (Below.refl B w).trans ⟨rfl, rfl, rfl, Nat.le_refl _, fun _ _ => rfl⟩
theorem CellsI.dr {w w' : World} {ao : Option Addr} {xs : List Int} (h : CellsI w ao xs) (hd : Dr w w') : CellsI w' ao xs := by
  obtain ⟨n, rfl⟩ := hd
  exact h
theorem CellsI.drewN {w : World} {ao : Option Addr} {xs : List Int} (h : CellsI w ao xs) (n : Nat) : CellsI (w.drewN n) ao xs := h

theorem cells_of_row {w : World} {x : Addr} {len : Nat} {zs : List Int} (hlen : len ≤ zs.length) (h : ∀ i, i < zs.length → w.cell? (x.add i) = some (.int .i64 (zs.getD i 0))) :
    CellsI w (some x) (zs.take len) := by
  intro i hi
  simp only [List.length_take] at hi
  obtain ⟨b, off, rfl, hc⟩ := ints_at h (by omega)
  refine ⟨b, off, rfl, ?_⟩
  rw [hc i (by omega)]
  have : i < zs.length := by omega
  have h2 : i < len := by omega
  simp [this, h2]

/-- Two owned slices, of which one was made before the other, lie in different blocks. -/
theorem apart_of {v1 v2 : Value} {n : Nat} (h1 : ∀ k, v1.ownBlock = some k → k < n) (h2 : ∀ k, v2.ownBlock = some k → n ≤ k) : v1.ownBlock = none ∨ v1.ownBlock ≠ v2.ownBlock := by
  cases e : v1.ownBlock with
  | none => exact .inl rfl
  | some k => exact .inr fun e2 => by have := h1 k e; have := h2 k e2.symm; omega
theorem apart_of' {v1 v2 : Value} {n : Nat} (h1 : ∀ k, v1.ownBlock = some k → k < n) (h2 : ∀ k, v2.ownBlock = some k → n ≤ k) : v2.ownBlock = none ∨ v2.ownBlock ≠ v1.ownBlock := by
  rcases apart_of h1 h2 with h | h
  · cases e : v2.ownBlock with
    | none => exact .inl rfl
    | some k => exact .inr fun e2 => by rw [h] at e2; cases e2
  · exact .inr fun e => h e.symm
/-- Old memory is not in a block of the call's own. -/
theorem cells_apart {w : World} {ao : Option Addr} {xs : List Int} {v : Value} {n : Nat} (h : CellsI w ao xs) (hs : w.heap.size ≤ n) (h2 : ∀ k, v.ownBlock = some k → n ≤ k) {w1 w2 : World} (h1 : CellsI w1 ao xs) (hg : w1.grownBy w2 v.ownBlock) : CellsI w2 ao xs := by
  intro i hi
  obtain ⟨b, off, rfl, hc⟩ := h i hi
  obtain ⟨b', off', he, hc'⟩ := h1 i hi
  simp at he
  obtain ⟨rfl, rfl⟩ := he
  have hb := World.block_lt_of_cell? w _ hc
  refine ⟨b, off, rfl, hg.cell hc' (fun e => ?_)⟩
  have := h2 b e.symm
  simp at hb
  omega


/-- n lies from lo to hi. -/
def inB (n lo hi : Int) : Bool := decide (lo ≤ n) && decide (n ≤ hi)
theorem inB_iff {n lo hi : Int} : inB n lo hi = true ↔ lo ≤ n ∧ n ≤ hi := by simp [inB]
theorem inB_not {n lo hi : Int} : inB n lo hi = false ↔ n < lo ∨ hi < n := by simp [inB]; omega

theorem l6In_any (a b c : Int) (w : World) :
    Calls Try.prog 33 #[.int .i64 a, .int .i64 b, .int .i64 c] w fun e w' => e = .returned (.bool (inB a b c)) ∧ w = w' := by
  go_enter Try.func33, Try.ntmps33
  go_wp2
  all_goals
    go_ret
    exact ⟨ret_bool (by simp [inB]; omega), rfl⟩

theorem within_any (a b c : Int) (w : World) :
    Calls Try.prog 26 #[.int .i64 a, .int .i64 b, .int .i64 c] w fun e w' => e = .returned (.bool (inB a b c)) ∧ w = w' := by
  go_enter Try.func26, Try.ntmps26
  go_wp2
  all_goals
    go_ret
    exact ⟨ret_bool (by simp [inB]; omega), rfl⟩


theorem l2Ports_any (n m : Int) (w : World) (hn0 : 0 ≤ n) (hn : n ≤ 1000000) (hm0 : 0 ≤ m) (hm : m ≤ 1000000) :
    Calls Try.prog 49 #[.int .i64 n, .int .i64 m] w fun e w' => e = .returned (.int .i64 (2 * (n + m))) ∧ w = w' := by
  go_enter Try.func49, Try.ntmps49
  go_wp2
  go_ret
  exact ⟨rfl, rfl⟩


/-- A sign that is a cell: '.', 'r' or 'f'. -/
def letB (c : Int) : Bool := c == 46 || c == 114 || c == 102
/-- Sign k of a text. -/
def sgn (s : ByteArray) (k : Nat) : Int := ((s.data.toList.getD k 0).toNat : Int)
theorem sgn_eq (s : ByteArray) (k : Nat) (h : k < s.size) : ((s[k]'h).toNat : Int) = sgn s k := by
  have h' : k < s.data.toList.length := by simpa using h
  simp only [sgn, List.getD_eq_getElem?_getD, List.getElem?_eq_getElem h', Option.getD_some]
  rfl
/-- The row with a number. -/
def rowOf (ss : List ByteArray) (i : Nat) : ByteArray := ss.getD i ByteArray.empty
def rowB (m : Nat) (s : ByteArray) : Bool := (s.size == m) && (List.range m).all fun k => letB (sgn s k)
def gridB (ss : List ByteArray) : Bool := inB ss.length 1 5 && (List.range ss.length).all (fun i => rowB (rowOf ss 0).size (rowOf ss i)) && inB (rowOf ss 0).size 1 5

theorem rowB_iff {m : Nat} {s : ByteArray} : rowB m s = true ↔ s.size = m ∧ ∀ k, k < m → letB (sgn s k) = true := by
  simp [rowB]
theorem gridB_iff {ss : List ByteArray} : gridB ss = true ↔ (1 ≤ ss.length ∧ ss.length ≤ 5) ∧ (∀ i, i < ss.length → rowB (rowOf ss 0).size (rowOf ss i) = true) ∧ 1 ≤ (rowOf ss 0).size ∧ (rowOf ss 0).size ≤ 5 := by
  simp only [gridB, Bool.and_eq_true, inB_iff, List.all_eq_true, List.mem_range]
  constructor
  · rintro ⟨⟨h1, h2⟩, h3⟩; exact ⟨by omega, h2, by omega⟩
  · rintro ⟨h1, h2, h3⟩; exact ⟨⟨by omega, h2⟩, by omega⟩
theorem gridB_row {ss : List ByteArray} {i : Nat} (hi : i < ss.length) (h : rowB (rowOf ss 0).size (rowOf ss i) = false) : gridB ss = false := by
  cases hg : gridB ss
  · rfl
  · have := (gridB_iff.1 hg).2.1 i hi
    rw [h] at this; cases this
theorem gridB_len {ss : List ByteArray} (h : inB ss.length 1 5 = false) : gridB ss = false := by simp [gridB, h]
theorem gridB_side {ss : List ByteArray} (h : inB (rowOf ss 0).size 1 5 = false) : gridB ss = false := by simp [gridB, h]
theorem gridB_end {ss : List ByteArray} (h0 : inB ss.length 1 5 = true) (h : ∀ i, i < ss.length → rowB (rowOf ss 0).size (rowOf ss i) = true) : gridB ss = inB (rowOf ss 0).size 1 5 := by
  have : (List.range ss.length).all (fun i => rowB (rowOf ss 0).size (rowOf ss i)) = true := by simpa using h
  simp [gridB, h0, this]
theorem gridB_end2 {ss : List ByteArray} (h : ∀ i, i < ss.length → rowB (rowOf ss 0).size (rowOf ss i) = true ∧ inB (rowOf ss i).size 1 5 = true) : gridB ss = inB ss.length 1 5 := by
  cases h0 : inB ss.length 1 5
  · exact gridB_len h0
  · rw [gridB_end h0 fun i hi => (h i hi).1]
    have := inB_iff.1 h0
    exact (h 0 (by omega)).2
theorem gridB_row2 {ss : List ByteArray} {i : Nat} (hi : i < ss.length) (h : (rowOf ss i).size = (rowOf ss 0).size) (h2 : inB (rowOf ss i).size 1 5 = false) : gridB ss = false := by
  rw [h] at h2; exact gridB_side h2
theorem rowB_size {m : Nat} {s : ByteArray} (h : s.size ≠ m) : rowB m s = false := by simp [rowB, h]
theorem rowB_sign {m : Nat} {s : ByteArray} {k : Nat} (hk : k < m) (h : letB (sgn s k) = false) : rowB m s = false := by
  cases hr : rowB m s
  · rfl
  · have := (rowB_iff.1 hr).2 k hk
    rw [h] at this; cases this

/-- The texts ss lie at ao. -/
def CellsS (w : World) (ao : Option Addr) (ss : List ByteArray) : Prop :=
  ∀ i, i < ss.length → ∃ b off, ao = some ⟨b, off, none⟩ ∧ w.cell? ⟨b, off + i, none⟩ = some (.string (rowOf ss i))
theorem CellsS.nil (w : World) (ao : Option Addr) : CellsS w ao [] := fun i hi => by simp at hi
theorem CellsS.at {w : World} {ao : Option Addr} {ss : List ByteArray} (h : CellsS w ao ss) {i : Nat} (hi : i < ss.length) :
    ∃ b off, ao = some ⟨b, off, none⟩ ∧ (∀ j, j < ss.length → w.cell? ⟨b, off + j, none⟩ = some (.string (rowOf ss j))) ∧ b < w.heap.size := by
  obtain ⟨b, off, rfl, hc⟩ := h i hi
  refine ⟨b, off, rfl, fun j hj => ?_, World.block_lt_of_cell? w _ hc⟩
  obtain ⟨b', off', he, hc'⟩ := h j hj
  simp at he
  obtain ⟨rfl, rfl⟩ := he
  exact hc'
theorem CellsS.below {B : Nat} {w w' : World} {ao : Option Addr} {ss : List ByteArray} (h : CellsS w ao ss) (hb : Below B w w') (hB : w.heap.size ≤ B) : CellsS w' ao ss := by
  intro i hi
  obtain ⟨b, off, rfl, hc⟩ := h i hi
  exact ⟨b, off, rfl, (hb.cell (p := ⟨b, off + i, none⟩) (Nat.lt_of_lt_of_le (World.block_lt_of_cell? w _ hc) hB)).trans hc⟩
theorem CellsS.dr {w w' : World} {ao : Option Addr} {ss : List ByteArray} (h : CellsS w ao ss) (hd : Dr w w') : CellsS w' ao ss := by
  obtain ⟨n, rfl⟩ := hd
  exact h
theorem cells_of_rowS {w : World} {x : Addr} {len : Nat} {zs : List ByteArray} (hlen : len ≤ zs.length) (h : ∀ i, i < zs.length → w.cell? (x.add i) = some (.string (zs.getD i ByteArray.empty))) :
    CellsS w (some x) (zs.take len) := by
  intro i hi
  simp only [List.length_take] at hi
  have hi2 : i < zs.length := by omega
  obtain ⟨b, off, spot⟩ := x
  have hspot : spot = none := by simpa [Addr.add] using World.cell?_spot (h 0 (by omega))
  subst hspot
  refine ⟨b, off, rfl, ?_⟩
  rw [← Go.WideShapes.add_plain, h i hi2]
  have h2 : i < len := by omega
  simp [rowOf, hi2, h2]
/-- A callee that leaves the world alone, inside a region that draws its order. -/
theorem quiet_eq {P : Program} {f : FuncId} {args : Array Value} {w : World} {n : Nat} {v : Value}
    (h : Calls P f args (w.drewN n) fun e w' => e = .returned v ∧ w.drewN n = w') : Calls P f args (w.drewN n) fun e w'' => e = .returned v ∧ ∃ m, w'' = w.drewN m :=
  h.mono fun _ _ ⟨he, hm⟩ => ⟨he, n, hm.symm⟩
theorem quiet_dr {P : Program} {f : FuncId} {args : Array Value} {w : World} {n : Nat} {v : Value}
    (h : Calls P f args (w.drewN n) fun e w' => e = .returned v ∧ Dr (w.drewN n) w') : Calls P f args (w.drewN n) fun e w'' => e = .returned v ∧ ∃ m, w'' = w.drewN m :=
  h.mono fun _ _ ⟨he, m, hm⟩ => ⟨he, n + m, by rw [hm, World.drewN_drewN]⟩
theorem below_dn {B : Nat} {a w : World} (h : Below B a w) (n : Nat) : Below B a (w.drewN n) := h.trans ⟨rfl, rfl, rfl, Nat.le_refl _, fun _ _ => rfl⟩

/-- A piece: the slice's value, its elements' type and cells, how many, the cells. -/
structure Seg where
  v : Value
  ty : TypeId
  size : Nat
  n : Nat
  xs : List Value

def Seg.own (s : Seg) (w : World) (base : Nat) : Prop := w.ownsRow base s.ty s.size s.v s.n s.xs
def SI (v : Value) (xs : List Int) : Seg := ⟨v, 3, 1, xs.length, xs.map (Value.int .i64)⟩
theorem SI_own {v : Value} {xs : List Int} {w : World} {base : Nat} : (SI v xs).own w base ↔ OwnI w base v xs := Iff.rfl

def Apart (s t : Seg) : Prop := (s.v.ownBlock = none ∨ s.v.ownBlock ≠ t.v.ownBlock) ∧ (t.v.ownBlock = none ∨ t.v.ownBlock ≠ s.v.ownBlock)

structure St (w0 W : World) (segs : List Seg) : Prop where
  below : Below w0.heap.size w0 W
  own : ∀ s ∈ segs, s.own W w0.heap.size
  apart : segs.Pairwise Apart

theorem Seg.own.lt {s : Seg} {w : World} {base : Nat} (h : s.own w base) : ∀ k, s.v.ownBlock = some k → base ≤ k ∧ k < w.heap.size := World.ownsRow.lt h
theorem Seg.own.below {s : Seg} {w w' : World} {base B : Nat} (h : s.own w base) (hb : Below B w w') (hB : w.heap.size ≤ B) : s.own w' base := by
  obtain ⟨hl, h2⟩ := h
  refine ⟨hl, ?_⟩
  rcases h2 with h2 | ⟨g, cap, cur, hv, hg, hh, r⟩
  · exact .inl h2
  · refine .inr ⟨g, cap, cur, hv, hg, ?_, r⟩
    rw [hb.block g (Nat.lt_of_lt_of_le (Array.getElem?_eq_some_iff.1 hh).1 hB)]
    exact hh
theorem Seg.own.mono {s : Seg} {w : World} {base base' : Nat} (h : s.own w base) (hb : base' ≤ base) : s.own w base' := by
  obtain ⟨hl, h2⟩ := h
  refine ⟨hl, ?_⟩
  rcases h2 with h2 | ⟨g, cap, cur, hv, hg, r⟩
  · exact .inl h2
  · exact .inr ⟨g, cap, cur, hv, by omega, r⟩

theorem St.init (w : World) : St w w [] := ⟨Below.refl _ _, by simp, List.Pairwise.nil⟩
theorem St.size {w0 W : World} {segs : List Seg} (h : St w0 W segs) : w0.heap.size ≤ W.heap.size := h.below.size
/-- Something was made, or nothing: all that there was is as it was. -/
theorem St.step {w0 W W' : World} {segs : List Seg} (h : St w0 W segs) (b : Below W.heap.size W W') : St w0 W' segs :=
  ⟨h.below.trans (b.mono h.size), fun s hs => (h.own s hs).below b (Nat.le_refl _), h.apart⟩
theorem St.dr {w0 W W' : World} {segs : List Seg} (h : St w0 W segs) (d : Dr W W') : St w0 W' segs := h.step (d.below _)
/-- A slice was made. -/
theorem St.addSeg {w0 W W' : World} {segs : List Seg} (h : St w0 W segs) {s : Seg} (o : s.own W' W.heap.size) (b : Below W.heap.size W W') : St w0 W' (s :: segs) := by
  refine ⟨(h.step b).below, fun t ht => ?_, List.Pairwise.cons (fun t ht => ?_) h.apart⟩
  · rcases List.mem_cons.1 ht with rfl | ht
    · exact o.mono h.size
    · exact (h.step b).own t ht
  · have h1 := (h.own t ht).lt
    have h2 := o.lt
    exact ⟨apart_of' (v1 := t.v) (v2 := s.v) (n := W.heap.size) (fun k hk => (h1 k hk).2) (fun k hk => (h2 k hk).1), apart_of (v1 := t.v) (v2 := s.v) (n := W.heap.size) (fun k hk => (h1 k hk).2) (fun k hk => (h2 k hk).1)⟩
theorem St.add {w0 W W' : World} {segs : List Seg} (h : St w0 W segs) {v : Value} {xs : List Int} (o : OwnI W' W.heap.size v xs) (b : Below W.heap.size W W') : St w0 W' (SI v xs :: segs) :=
  h.addSeg (s := SI v xs) o b
/-- One piece is written. -/
theorem St.writeSeg {w0 W W' : World} (pre post : List Seg) (s s' : Seg) (h : St w0 W (pre ++ s :: post)) (hv : s'.v = s.v) (o : s'.own W' w0.heap.size) (g : W.grownBy W' s.v.ownBlock) :
    St w0 W' (pre ++ s' :: post) := by
  have hs := h.own s (by simp)
  have hap := List.pairwise_append.1 h.apart
  have hap2 := List.pairwise_cons.1 hap.2.1
  have other : ∀ t : Seg, t.own W w0.heap.size → Apart s t → t.own W' w0.heap.size := fun t ht ha => World.ownsRow.kept ht g ha.2
  have other2 : ∀ t : Seg, t.own W w0.heap.size → Apart t s → t.own W' w0.heap.size := fun t ht ha => World.ownsRow.kept ht g ha.1
  refine ⟨h.below.trans (Below.of_grown g h.size fun k hk => (hs.lt k hk).1), fun t ht => ?_, ?_⟩
  · rcases List.mem_append.1 ht with ht | ht
    · exact other2 t (h.own t (by simp [ht])) (hap.2.2 t ht s (by simp))
    · rcases List.mem_cons.1 ht with rfl | ht
      · exact o
      · exact other t (h.own t (by simp [ht])) (hap2.1 t ht)
  · refine List.pairwise_append.2 ⟨hap.1, List.pairwise_cons.2 ⟨fun t ht => ?_, hap2.2⟩, fun a ha t ht => ?_⟩
    · have := hap2.1 t ht
      unfold Apart at this ⊢
      rw [hv]; exact this
    · rcases List.mem_cons.1 ht with rfl | ht
      · have := hap.2.2 a ha s (by simp)
        unfold Apart at this ⊢
        rw [hv]; exact this
      · exact hap.2.2 a ha t (by simp [ht])
theorem St.write0 {w0 W W' : World} {v : Value} {xs ys : List Int} {post : List Seg} (h : St w0 W (SI v xs :: post)) (o : OwnI W' w0.heap.size v ys) (g : W.grownBy W' v.ownBlock) : St w0 W' (SI v ys :: post) :=
  St.writeSeg [] post (SI v xs) (SI v ys) h rfl o g
theorem St.write1 {w0 W W' : World} {a : Seg} {v : Value} {xs ys : List Int} {post : List Seg} (h : St w0 W (a :: SI v xs :: post)) (o : OwnI W' w0.heap.size v ys) (g : W.grownBy W' v.ownBlock) : St w0 W' (a :: SI v ys :: post) :=
  St.writeSeg [a] post (SI v xs) (SI v ys) h rfl o g
theorem St.write2 {w0 W W' : World} {a b : Seg} {v : Value} {xs ys : List Int} {post : List Seg} (h : St w0 W (a :: b :: SI v xs :: post)) (o : OwnI W' w0.heap.size v ys) (g : W.grownBy W' v.ownBlock) : St w0 W' (a :: b :: SI v ys :: post) :=
  St.writeSeg [a, b] post (SI v xs) (SI v ys) h rfl o g
theorem St.write3 {w0 W W' : World} {a b c : Seg} {v : Value} {xs ys : List Int} {post : List Seg} (h : St w0 W (a :: b :: c :: SI v xs :: post)) (o : OwnI W' w0.heap.size v ys) (g : W.grownBy W' v.ownBlock) : St w0 W' (a :: b :: c :: SI v ys :: post) :=
  St.writeSeg [a, b, c] post (SI v xs) (SI v ys) h rfl o g
/-- A piece that is wanted. -/
theorem St.get {w0 W : World} {segs : List Seg} (h : St w0 W segs) {v : Value} {xs : List Int} (i : Nat) (hi : segs[i]? = some (SI v xs)) : OwnI W w0.heap.size v xs :=
  h.own _ (List.mem_of_getElem? hi)
theorem OwnI.cells {w : World} {base : Nat} {ao : Option Addr} {n cap : Nat} {xs : List Int} (h : OwnI w base (.slice ao n cap) xs) : CellsI w ao xs := by
  obtain ⟨a', c', he, _, _, hc, _⟩ := h.shape
  cases he
  exact hc
theorem OwnI.len {w : World} {base : Nat} {v : Value} {xs : List Int} (h : OwnI w base v xs) : xs.length ≤ maxLen := by
  obtain ⟨a', c', he, h1, h2, _⟩ := h.shape
  omega
/-- The numbers of a piece of the list. -/
theorem St.cells {w0 W : World} {segs : List Seg} (h : St w0 W segs) {ao : Option Addr} {n cap : Nat} {xs : List Int} (i : Nat) (hi : segs[i]? = some (SI (.slice ao n cap) xs)) : CellsI W ao xs :=
  (h.get i hi).cells
theorem St.len {w0 W : World} {segs : List Seg} (h : St w0 W segs) {v : Value} {xs : List Int} (i : Nat) (hi : segs[i]? = some (SI v xs)) : xs.length ≤ maxLen := (h.get i hi).len
/-- What came in reads as it did. -/
theorem St.old {w0 W : World} {segs : List Seg} (h : St w0 W segs) {ao : Option Addr} {xs : List Int} (hx : CellsI w0 ao xs) : CellsI W ao xs := hx.below h.below (Nat.le_refl _)
theorem OwnI.shape2 {w : World} {base : Nat} {v : Value} {xs : List Int} (h : OwnI w base v xs) : ∃ ao cap, v = .slice ao xs.length cap := by
  obtain ⟨a', c', he, _⟩ := h.shape
  exact ⟨a', c', he⟩

theorem OwnI.alloc {w : World} {base : Nat} {v : Value} {xs : List Int} (h : OwnI w base v xs) (o : Obj) : OwnI (w.alloc o) base v xs := World.ownsRow.alloc h o
/-- A store at place j of an owned slice: what the walk asks, and what it leaves. -/
theorem OwnI.put {w : World} {base g n cap : Nat} {xs : List Int} (h : OwnI w base (.slice (some ⟨g, 0, none⟩) n cap) xs) (j : Nat) (hj : j < xs.length) :
    (∃ u, w.cell? ⟨g, j, none⟩ = some u) ∧ w.frozen? ⟨g, j, none⟩ = false ∧
      ∀ x : Int, OwnI (w.setCell ⟨g, j, none⟩ (.int .i64 x)) base (.slice (some ⟨g, 0, none⟩) n cap) (xs.set j x) := by
  obtain ⟨a', c', he, _⟩ := h.shape
  have hn : n = xs.length := by injection he
  subst hn
  refine ⟨⟨_, (World.ownsRow.cellAt h j (by omega)).trans (List.getElem?_eq_getElem (by simpa using hj))⟩, World.ownsRow.frozenAt h j, fun x => (h.stored j x).1⟩

/-- 'append(s, y)' at the operation, s the call's own. -/
theorem wpAppendI (w : World) {ops : Array Oper} {rest : List Oper} {o : Oper} {a : Act} {Q : Exit → Act → World → Prop}
    (hg : o.guard = none) (s x : Operand) (ho : o.op = .call { callee := .builtin .append, args := #[s, x], argTypes := #[39, 39] }) (base : Nat) (v : Value) (xs : List Int) (y : Int) (ad : Addr)
    (hs : a.eval s = v) (hown : OwnI w base v xs) (hx : a.eval x = .slice (some ad) 1 1) (hc : ∀ (j : Nat) (u : Value), [Value.int .i64 y][j]? = some u → w.cell? (ad.add j) = some u) (hl : xs.length ≤ 4194304) (hb : base ≤ w.heap.size)
    (hK : ∀ v' w', OwnI w' base v' (xs ++ [y]) → w.grownBy w' v.ownBlock → wpList Try.prog ops Q rest (a.put o.dst v') w') : wpList Try.prog ops Q (o :: rest) a w := by
  obtain ⟨i0, hi, hz0, hz1, hz2⟩ := info_parts intInfo
  refine wpList_append_own w hg s x 39 ho base 3 i0 (.int .i64 0) 1 8 Try.underlying39 hi hz0 hz1 hz2 rfl (by decide) v xs.length (xs.map (Value.int .i64)) hs hown ad 1 1 [.int .i64 y] hx rfl hc ?_ ?_ ?_ hb ?_
  · intro u hu; simp at hu; subst hu; rfl
  · unfold maxLen; omega
  · omega
  · intro v' w' h1 h2 _
    refine hK v' w' ?_ h2
    unfold OwnI
    rw [List.length_append, List.map_append]
    exact h1
/-- A store into another block. -/
theorem cell_put_ne {w : World} {p a : Addr} {u x : Value} (h : w.cell? a = some x) (hne : a.block ≠ p.block) : (w.setCell p u).cell? a = some x :=
  (World.cell?_of_block (w := w) (Below.heap_setCell w p u a.block hne)).trans h

/-- A slice of texts. -/
def SS (v : Value) (ss : List ByteArray) : Seg := ⟨v, 9, 1, ss.length, ss.map Value.string⟩
theorem strInfo : (Try.prog.info? 9).map (fun i => (i.zero, i.size, i.bytes)) = some (some (.string ByteArray.empty), 1, 16) := by kernel_rfl
theorem SS_shape {w : World} {base : Nat} {v : Value} {ss : List ByteArray} (h : (SS v ss).own w base) :
    ∃ ao cap, v = .slice ao ss.length cap ∧ ss.length ≤ maxLen ∧ CellsS w ao ss := by
  rcases h.2 with ⟨hv, hn⟩ | ⟨g, cap, cur, hv, hb, hg, hnc, hcm, _⟩
  · have h0 : ss.length = 0 := hn
    have h1 : ss = [] := List.eq_nil_of_length_eq_zero h0
    subst h1
    exact ⟨none, 0, hv, Nat.zero_le _, CellsS.nil _ _⟩
  · refine ⟨some ⟨g, 0, none⟩, cap, hv, Nat.le_trans hnc hcm, fun i hi => ⟨g, 0, rfl, ?_⟩⟩
    have hv' : v = .slice (some ⟨g, 0, none⟩) ss.length cap := hv
    subst hv'
    have hc := World.ownsRow.cellAt h i (by show i < ss.length * 1; omega)
    rw [Nat.zero_add, hc]
    simp [rowOf, hi, SS]
def eqLS (xs ys : List ByteArray) : Bool := decide (xs = ys)

/-- 'make([]string, n)' at the operation. -/
theorem wpMakeS (w : World) {ops : Array Oper} {rest : List Oper} {o : Oper} {a : Act} {Q : Exit → Act → World → Prop}
    (hg : o.guard = none) (l c : Operand) (hop : o.op = Op.makeSlice 23 l c) (base n : Nat) (kl kc : IntKind) (L C : Int)
    (hl : a.eval l = .int kl L) (hc : a.eval c = .int kc C) (hL : L = (n : Int)) (hC : C = (n : Int)) (b : n ≤ 4194304) (hb : base ≤ w.heap.size)
    (hK : ∀ w', (SS (.slice (some ⟨w.heap.size, 0, none⟩) n n) (List.replicate n ByteArray.empty)).own w' base → w.grownBy w' none → wpList Try.prog ops Q rest (a.put o.dst (.slice (some ⟨w.heap.size, 0, none⟩) n n)) w') :
    wpList Try.prog ops Q (o :: rest) a w := by
  obtain ⟨i0, hi, hz0, hz1, hz2⟩ := info_parts strInfo
  refine wpList_make_full w hg l c 23 hop base 9 i0 (.string ByteArray.empty) 1 Try.underlying23 hi hz0 hz1 kl kc L C n hl hc hL hC (by rw [hz2]; omega) (by unfold maxLen; omega) hb ?_
  intro w' h1 h2
  refine hK w' ?_ h2
  have e : (madeCells (Value.string ByteArray.empty).cells (n * 1)).toList = (List.replicate n ByteArray.empty).map Value.string := by
    apply List.ext_getElem
    · simp [madeCells, Value.cells]
    · intro i h1 h2
      simp [madeCells, Value.cells, Nat.mod_one]
  unfold SS Seg.own
  dsimp only
  rw [← e, List.length_replicate]
  exact h1

theorem SS_stored {w : World} {base g cap : Nat} {xs : List ByteArray} (h : (SS (.slice (some ⟨g, 0, none⟩) xs.length cap) xs).own w base) (j : Nat) (x : ByteArray) :
    (SS (.slice (some ⟨g, 0, none⟩) xs.length cap) (xs.set j x)).own (w.setCell ⟨g, j, none⟩ (.string x)) base ∧ w.grownBy (w.setCell ⟨g, j, none⟩ (.string x)) (some g) := by
  have := World.ownsRow.stored h j (.string x)
  unfold SS Seg.own at *
  dsimp only at *
  rw [List.length_set, List.map_set]
  exact this

/-- The first j places are copied from xs. -/
def cpS (xs : List ByteArray) (j : Nat) : List ByteArray := xs.take j ++ List.replicate (xs.length - j) ByteArray.empty
theorem cpS_length (xs : List ByteArray) {j : Nat} (h : j ≤ xs.length) : (cpS xs j).length = xs.length := by simp [cpS]; omega
theorem cpS_zero (xs : List ByteArray) : cpS xs 0 = List.replicate xs.length ByteArray.empty := by simp [cpS]
theorem cpS_all (xs : List ByteArray) : cpS xs xs.length = xs := by simp [cpS]
theorem cpS_set (xs : List ByteArray) {j : Nat} (h : j < xs.length) : (cpS xs j).set j (rowOf xs j) = cpS xs (j + 1) := by
  apply List.ext_getElem?
  intro i
  simp only [cpS, rowOf, List.getElem?_set, List.getElem?_append, List.length_take, List.getElem?_take, List.getElem?_replicate, List.getD_eq_getElem?_getD, List.getElem?_eq_getElem h, Option.getD_some, List.length_append, List.length_replicate]
  have e1 : min j xs.length = j := by omega
  have e2 : min (j + 1) xs.length = j + 1 := by omega
  rw [e1, e2]
  by_cases e : j = i
  · subst e
    have : j < j + (xs.length - j) := by omega
    simp [h, this]
  · by_cases e3 : i < j
    · have : i < j + 1 := by omega
      simp [e, e3, this]
    · have e4 : ¬ i < j + 1 := by omega
      simp only [e, e3, e4, if_false]
      by_cases e5 : i < xs.length
      · rw [if_pos (by omega), if_pos (by omega)]
      · rw [if_neg (by omega), if_neg (by omega)]

/-- The piece s has become s': it was written in its block, or lies in a new one now. -/
def Became (W W' : World) (base : Nat) (s s' : Seg) : Prop :=
  (s'.v.ownBlock = s.v.ownBlock ∧ s'.own W' base ∧ W.grownBy W' s.v.ownBlock) ∨ (s'.own W' W.heap.size ∧ Below W.heap.size W W')

theorem Became.own {W W' : World} {base : Nat} {s s' : Seg} (h : Became W W' base s s') (hb : base ≤ W.heap.size) : s'.own W' base := by
  rcases h with h | h
  · exact h.2.1
  · exact h.1.mono hb
theorem Became.size {W W' : World} {base : Nat} {s s' : Seg} (h : Became W W' base s s') : W.heap.size ≤ W'.heap.size := by
  rcases h with h | h
  · exact h.2.2.size
  · exact h.2.size

theorem St.became {w0 W W' : World} (pre post : List Seg) (s s' : Seg) (h : St w0 W (pre ++ s :: post)) (hc : Became W W' w0.heap.size s s') : St w0 W' (pre ++ s' :: post) := by
  have hs := h.own s (by simp)
  have hap := List.pairwise_append.1 h.apart
  have hap2 := List.pairwise_cons.1 hap.2.1
  rcases hc with ⟨hv, o, g⟩ | ⟨o, b⟩
  · have other : ∀ t : Seg, t.own W w0.heap.size → Apart s t → t.own W' w0.heap.size := fun t ht ha => World.ownsRow.kept ht g ha.2
    have other2 : ∀ t : Seg, t.own W w0.heap.size → Apart t s → t.own W' w0.heap.size := fun t ht ha => World.ownsRow.kept ht g ha.1
    refine ⟨h.below.trans (Below.of_grown g h.size fun k hk => (hs.lt k hk).1), fun t ht => ?_, ?_⟩
    · rcases List.mem_append.1 ht with ht | ht
      · exact other2 t (h.own t (by simp [ht])) (hap.2.2 t ht s (by simp))
      · rcases List.mem_cons.1 ht with rfl | ht
        · exact o
        · exact other t (h.own t (by simp [ht])) (hap2.1 t ht)
    · refine List.pairwise_append.2 ⟨hap.1, List.pairwise_cons.2 ⟨fun t ht => ?_, hap2.2⟩, fun a ha t ht => ?_⟩
      · have := hap2.1 t ht
        unfold Apart at this ⊢
        rw [hv]; exact this
      · rcases List.mem_cons.1 ht with rfl | ht
        · have := hap.2.2 a ha s (by simp)
          unfold Apart at this ⊢
          rw [hv]; exact this
        · exact hap.2.2 a ha t (by simp [ht])
  · have hst := h.step b
    have ap1 : ∀ t : Seg, t.own W w0.heap.size → Apart s' t := fun t ht => by
      have h1 := ht.lt
      have h2 := o.lt
      exact ⟨apart_of' (v1 := t.v) (v2 := s'.v) (n := W.heap.size) (fun k hk => (h1 k hk).2) (fun k hk => (h2 k hk).1), apart_of (v1 := t.v) (v2 := s'.v) (n := W.heap.size) (fun k hk => (h1 k hk).2) (fun k hk => (h2 k hk).1)⟩
    refine ⟨hst.below, fun t ht => ?_, ?_⟩
    · rcases List.mem_append.1 ht with ht | ht
      · exact hst.own t (by simp [ht])
      · rcases List.mem_cons.1 ht with rfl | ht
        · exact o.mono h.size
        · exact hst.own t (by simp [ht])
    · refine List.pairwise_append.2 ⟨hap.1, List.pairwise_cons.2 ⟨fun t ht => ap1 t (h.own t (by simp [ht])), hap2.2⟩, fun a ha t ht => ?_⟩
      rcases List.mem_cons.1 ht with rfl | ht
      · have := ap1 a (h.own a (by simp [ha]))
        exact ⟨this.2, this.1⟩
      · exact hap.2.2 a ha t (by simp [ht])

/-- A slice's element type in the program's table. -/
structure Elem (P : Program) (t e : TypeId) (size bytes : Nat) (z : Value) : Prop where
  under : P.underlying t = some (.slice e)
  info : (P.info? e).map (fun i => (i.zero, i.size, i.bytes)) = some (some z, size, bytes)
  cells : z.cells.size = size
  pos : 0 < size

theorem run_append_became {P : Program} {w : World} {t ty e : TypeId} {size bytes : Nat} {z : Value} (E : Elem P t e size bytes z) {base : Nat} {s : Seg} (hty : s.ty = e) (hsz : s.size = size) (hown : s.own w base)
    {a : Addr} {m c : Nat} {news : List Value} (hl : news.length = m * size) (hnews : ∀ j u, news[j]? = some u → w.cell? (a.add j) = some u) (h1 : ∀ u ∈ news, u.oneCell' = true)
    (h63 : s.n + m ≤ maxLen) (hbytes : (s.n + m) * bytes ≤ 140737488355328) :
    ∃ v' w', (Builtin.append_ #[t, t] ty #[s.v, .slice (some a) m c]).run P w = .ok v' w' ∧ Became w w' base s ⟨v', e, size, s.n + m, s.xs ++ news⟩ := by
  obtain ⟨i, hi, hz, hs, hb⟩ := info_parts E.info
  obtain ⟨v, ty', size', n, xs⟩ := s
  simp only at hty hsz
  subst hty hsz
  simp only [Seg.own] at hown
  simp only at h63 hbytes ⊢
  rcases id hown.2 with ⟨rfl, rfl⟩ | ⟨g, cap, cur, rfl, hbg, hg, hnc, hcm, hcs, htake⟩
  · have hx : xs = [] := List.eq_nil_of_length_eq_zero (by simpa using hown.1)
    subst hx
    obtain ⟨v', w', hr, h2, h3, _⟩ := run_append_own (P := P) w w.heap.size t ty ty' i z size' bytes E.under hi hz hs hb E.cells E.pos (.slice none 0 0) 0 [] (World.ownsRow_nil _ _ _ _) a m c news hl hnews h1 h63 hbytes (Nat.le_refl _)
    exact ⟨v', w', hr, .inr ⟨h2, Below.of_grown h3 (Nat.le_refl _) (by simp [Value.ownBlock])⟩⟩
  · by_cases hroom : n + m ≤ cap
    · obtain ⟨w', hr, h2, h3⟩ := run_append_fits (P := P) w base t ty ty' i size' E.under hi hs g n cap xs hown a m c news hl hnews h1 hroom
      exact ⟨_, w', hr, .inl ⟨rfl, h2, h3⟩⟩
    · obtain ⟨v', w', hr, h2, h3⟩ := run_append_arg_grows (P := P) w t ty ty' i z size' bytes E.under hi hz hs hb E.cells E.pos ⟨g, 0, none⟩ n cap xs hown.1 (hown.cells (g := g) rfl) a m c news hl hnews (by omega) h63 hbytes
      exact ⟨v', w', hr, .inr ⟨h2, Below.of_grown h3 (Nat.le_refl _) (by simp)⟩⟩

/-- 'append(s, ..)' at the operation, s a piece of the call's own. -/
theorem wpAppendSt {P : Program} {t e : TypeId} {size bytes : Nat} {z : Value} (E : Elem P t e size bytes z) (w : World) {ops : Array Oper} {rest : List Oper} {o : Oper} {a : Act} {Q : Exit → Act → World → Prop}
    (hg : o.guard = none) (sl x : Operand) (ho : o.op = .call { callee := .builtin .append, args := #[sl, x], argTypes := #[t, t] }) (base : Nat) (s : Seg) (hty : s.ty = e) (hsz : s.size = size)
    (hs : a.eval sl = s.v) (hown : s.own w base) (ad : Addr) (m c : Nat) (news : List Value) (hx : a.eval x = .slice (some ad) m c) (hl : news.length = m * size)
    (hnews : ∀ j u, news[j]? = some u → w.cell? (ad.add j) = some u) (h1 : ∀ u ∈ news, u.oneCell' = true) (h63 : s.n + m ≤ maxLen) (hbytes : (s.n + m) * bytes ≤ 140737488355328)
    (hK : ∀ v' w', Became w w' base s ⟨v', e, size, s.n + m, s.xs ++ news⟩ → wpList P ops Q rest (a.put o.dst v') w') : wpList P ops Q (o :: rest) a w := by
  refine wpList_plain hg fun K hK' => ?_
  obtain ⟨v', w', hr, hb⟩ := run_append_became (ty := o.type) E hty hsz hown hl hnews h1 h63 hbytes
  unfold Oper.wp execOp
  simp only [ho, resolve, invoke, builtin, Sem.run_bind, Sem.run_pure, Result.andThen_ok, List.map_toArray, List.map_cons, List.map_nil, hs, hx]
  rw [hr]
  exact hK' _ _ (hK v' w' hb)

/-- The same as a step of a region that draws its order. -/
theorem step_appendSt {P : Program} {t e : TypeId} {size bytes : Nat} {z : Value} (E : Elem P t e size bytes z) {ops : Array Oper} {o : Oper} {a : Act} {w : World} {K : Act → World → Prop} {Q : Exit → Act → World → Prop} {E' : Prop}
    (hg : o.guard = none) (sl x : Operand) (ho : o.op = .call { callee := .builtin .append, args := #[sl, x], argTypes := #[t, t] }) (base : Nat) (s : Seg) (hty : s.ty = e) (hsz : s.size = size)
    (hs : a.eval sl = s.v) (hown : s.own w base) (ad' : Option Addr) (ad : Addr) (m c : Nat) (news : List Value) (hx : a.eval x = .slice ad' m c) (had : ad' = some ad) (hl : news.length = m * size)
    (hnews : ∀ j u, news[j]? = some u → w.cell? (ad.add j) = some u) (h1 : ∀ u ∈ news, u.oneCell' = true) (h63 : s.n + m ≤ maxLen) (hbytes : (s.n + m) * bytes ≤ 140737488355328)
    (hK : ∀ v' w', Became w w' base s ⟨v', e, size, s.n + m, s.xs ++ news⟩ → K (a.put o.dst v') w') :
    if Region.wanted o (yielded ops a.tmps) = true then Oper.wp P o a w K Q else E' := by
  have hw : Region.wanted o (yielded ops a.tmps) = true := by simp [Region.wanted, hg]
  rw [if_pos hw]
  subst had
  obtain ⟨v', w', hr, hb⟩ := run_append_became (ty := o.type) E hty hsz hown hl hnews h1 h63 hbytes
  unfold Oper.wp
  simp only [execOp, ho, resolve, invoke, builtin, Sem.run_bind, Sem.run_pure, Result.andThen_ok, List.map_toArray, List.map_cons, List.map_nil, hs, hx]
  rw [hr]
  exact hK v' w' hb

theorem elemI : Elem Try.prog 39 3 1 8 (.int .i64 0) := ⟨Try.underlying39, intInfo, rfl, by decide⟩

theorem ints_one (ys : List Int) : ∀ u ∈ ys.map (Value.int .i64), u.oneCell' = true := by
  intro u hu
  obtain ⟨q, _, rfl⟩ := List.mem_map.1 hu
  rfl
theorem SI_append {v : Value} {xs ys : List Int} {n : Nat} (hn : n = xs.length + ys.length) : (⟨v, 3, 1, n, xs.map (Value.int .i64) ++ ys.map (Value.int .i64)⟩ : Seg) = SI v (xs ++ ys) := by
  subst hn
  simp [SI]

/-- 'append(s, y)', s a piece of numbers. -/
theorem wpPushI (w : World) {ops : Array Oper} {rest : List Oper} {o : Oper} {a : Act} {Q : Exit → Act → World → Prop}
    (hg : o.guard = none) (sl x : Operand) (ho : o.op = .call { callee := .builtin .append, args := #[sl, x], argTypes := #[39, 39] }) (base : Nat) (v : Value) (xs : List Int) (y : Int) (ad : Addr)
    (hs : a.eval sl = v) (hown : (SI v xs).own w base) (hx : a.eval x = .slice (some ad) 1 1) (hc : ∀ (j : Nat) (u : Value), [Value.int .i64 y][j]? = some u → w.cell? (ad.add j) = some u) (hl : xs.length ≤ 4194304)
    (hK : ∀ v' w', Became w w' base (SI v xs) (SI v' (xs ++ [y])) → wpList Try.prog ops Q rest (a.put o.dst v') w') : wpList Try.prog ops Q (o :: rest) a w := by
  refine wpAppendSt elemI w hg sl x ho base (SI v xs) rfl rfl hs hown ad 1 1 [.int .i64 y] hx rfl hc (ints_one [y]) (by simp only [SI]; unfold maxLen; omega) (by simp only [SI]; omega) ?_
  intro v' w' hb
  refine hK v' w' ?_
  have e := SI_append (v := v') (xs := xs) (ys := [y]) rfl
  rw [← e]
  exact hb
theorem St.became0 {w0 W W' : World} {s s' : Seg} {post : List Seg} (h : St w0 W (s :: post)) (hc : Became W W' w0.heap.size s s') : St w0 W' (s' :: post) := St.became [] post s s' h hc
theorem St.became1 {w0 W W' : World} {a s s' : Seg} {post : List Seg} (h : St w0 W (a :: s :: post)) (hc : Became W W' w0.heap.size s s') : St w0 W' (a :: s' :: post) := St.became [a] post s s' h hc
theorem St.became2 {w0 W W' : World} {a b s s' : Seg} {post : List Seg} (h : St w0 W (a :: b :: s :: post)) (hc : Became W W' w0.heap.size s s') : St w0 W' (a :: b :: s' :: post) := St.became [a, b] post s s' h hc
/-- A piece that is wanted no longer. -/
theorem St.drop0 {w0 W : World} {s : Seg} {post : List Seg} (h : St w0 W (s :: post)) : St w0 W post :=
  ⟨h.below, fun t ht => h.own t (by simp [ht]), (List.pairwise_cons.1 h.apart).2⟩
theorem St.drop1 {w0 W : World} {a s : Seg} {post : List Seg} (h : St w0 W (a :: s :: post)) : St w0 W (a :: post) :=
  ⟨h.below, fun t ht => h.own t (by rcases List.mem_cons.1 ht with h | h <;> simp [h]), by
    have h1 := List.pairwise_cons.1 h.apart
    exact List.pairwise_cons.2 ⟨fun t ht => h1.1 t (by simp [ht]), (List.pairwise_cons.1 h1.2).2⟩⟩
theorem St.swap {w0 W : World} {a s : Seg} {post : List Seg} (h : St w0 W (a :: s :: post)) : St w0 W (s :: a :: post) := by
  have h1 := List.pairwise_cons.1 h.apart
  have h2 := List.pairwise_cons.1 h1.2
  refine ⟨h.below, fun t ht => h.own t (by simp only [List.mem_cons] at ht ⊢; rcases ht with h | h | h <;> simp [h]), List.pairwise_cons.2 ⟨fun t ht => ?_, List.pairwise_cons.2 ⟨fun t ht => h1.1 t (by simp [ht]), h2.2⟩⟩⟩
  rcases List.mem_cons.1 ht with rfl | ht
  · have := h1.1 s (by simp)
    exact ⟨this.2, this.1⟩
  · exact h2.1 t ht
theorem grownBy_setCell (w : World) (p : Addr) (u : Value) : w.grownBy (w.setCell p u) (some p.block) :=
  ⟨rfl, rfl, rfl, by simp [World.setCell], fun k _ hk => Below.heap_setCell _ _ _ _ (fun e => hk (by rw [e]))⟩
/-- A store into a place of a piece of numbers: what the walk asks, and what it leaves. -/
theorem St.putAt {w0 W : World} (pre post : List Seg) {g n cap : Nat} {xs : List Int} (h : St w0 W (pre ++ SI (.slice (some ⟨g, 0, none⟩) n cap) xs :: post)) (j : Nat) (hj : j < xs.length) :
    (∃ u, W.cell? ⟨g, j, none⟩ = some u) ∧ W.frozen? ⟨g, j, none⟩ = false ∧ ∀ x : Int, St w0 (W.setCell ⟨g, j, none⟩ (.int .i64 x)) (pre ++ SI (.slice (some ⟨g, 0, none⟩) n cap) (xs.set j x) :: post) := by
  have ho : OwnI W w0.heap.size (.slice (some ⟨g, 0, none⟩) n cap) xs := h.own (SI (.slice (some ⟨g, 0, none⟩) n cap) xs) (by simp)
  obtain ⟨h1, h2, h3⟩ := ho.put j hj
  exact ⟨h1, h2, fun x => St.writeSeg pre post _ (SI (.slice (some ⟨g, 0, none⟩) n cap) (xs.set j x)) h rfl (h3 x) (grownBy_setCell _ _ _)⟩
theorem St.put0 {w0 W : World} {post : List Seg} {g n cap : Nat} {xs : List Int} (h : St w0 W (SI (.slice (some ⟨g, 0, none⟩) n cap) xs :: post)) (j : Nat) (hj : j < xs.length) :
    (∃ u, W.cell? ⟨g, j, none⟩ = some u) ∧ W.frozen? ⟨g, j, none⟩ = false ∧ ∀ x : Int, St w0 (W.setCell ⟨g, j, none⟩ (.int .i64 x)) (SI (.slice (some ⟨g, 0, none⟩) n cap) (xs.set j x) :: post) :=
  St.putAt [] post h j hj
theorem St.put1 {w0 W : World} {a : Seg} {post : List Seg} {g n cap : Nat} {xs : List Int} (h : St w0 W (a :: SI (.slice (some ⟨g, 0, none⟩) n cap) xs :: post)) (j : Nat) (hj : j < xs.length) :
    (∃ u, W.cell? ⟨g, j, none⟩ = some u) ∧ W.frozen? ⟨g, j, none⟩ = false ∧ ∀ x : Int, St w0 (W.setCell ⟨g, j, none⟩ (.int .i64 x)) (a :: SI (.slice (some ⟨g, 0, none⟩) n cap) (xs.set j x) :: post) :=
  St.putAt [a] post h j hj
/-- Two pieces lie in different blocks. -/
theorem St.ne01 {w0 W : World} {a b : Seg} {post : List Seg} (h : St w0 W (a :: b :: post)) {g1 g2 : Nat} (h1 : a.v.ownBlock = some g1) (h2 : b.v.ownBlock = some g2) : g1 ≠ g2 := by
  have := (List.pairwise_cons.1 h.apart).1 b (by simp)
  rcases this.1 with h | h
  · rw [h1] at h; cases h
  · rw [h1, h2] at h
    exact fun e => h (by rw [e])

/-- What was made behind what had been made. -/
theorem St.join {w0 w1 W : World} {a b : List Seg} (h : St w0 w1 a) (k : St w1 W b) : St w0 W (b ++ a) := by
  refine ⟨h.below.trans (k.below.mono h.size), fun s hs => ?_, List.pairwise_append.2 ⟨k.apart, h.apart, fun s hs t ht => ?_⟩⟩
  · rcases List.mem_append.1 hs with hs | hs
    · exact (k.own s hs).mono h.size
    · exact (h.own s hs).below k.below (Nat.le_refl _)
  · have h1 := (h.own t ht).lt
    have h2 := (k.own s hs).lt
    exact ⟨apart_of' (v1 := t.v) (v2 := s.v) (n := w1.heap.size) (fun k hk => (h1 k hk).2) (fun k hk => (h2 k hk).1), apart_of (v1 := t.v) (v2 := s.v) (n := w1.heap.size) (fun k hk => (h1 k hk).2) (fun k hk => (h2 k hk).1)⟩
theorem St.textsAt {w0 W : World} {segs : List Seg} (h : St w0 W segs) {ao : Option Addr} {n cap : Nat} {ss : List ByteArray} (i : Nat) (hi : segs[i]? = some (SS (.slice ao n cap) ss)) : CellsS W ao ss ∧ ss.length ≤ maxLen := by
  obtain ⟨a', c', he, hl, hc⟩ := SS_shape (h.own _ (List.mem_of_getElem? hi))
  cases he
  exact ⟨hc, hl⟩
theorem St.texts {w0 W : World} {segs : List Seg} (h : St w0 W segs) {ao : Option Addr} {n cap : Nat} {ss : List ByteArray} (i : Nat) (hi : segs[i]? = some (SS (.slice ao n cap) ss)) : CellsS W ao ss := (h.textsAt i hi).1
theorem St.oldS {w0 W : World} {segs : List Seg} (h : St w0 W segs) {ao : Option Addr} {ss : List ByteArray} (hx : CellsS w0 ao ss) : CellsS W ao ss := hx.below h.below (Nat.le_refl _)
theorem St.shapeS {w0 W : World} {segs : List Seg} (h : St w0 W segs) {v : Value} {ss : List ByteArray} (i : Nat) (hi : segs[i]? = some (SS v ss)) : ∃ ao cap, v = .slice ao ss.length cap := by
  obtain ⟨a', c', he, _⟩ := SS_shape (h.own _ (List.mem_of_getElem? hi))
  exact ⟨a', c', he⟩
theorem St.shapeI {w0 W : World} {segs : List Seg} (h : St w0 W segs) {v : Value} {xs : List Int} (i : Nat) (hi : segs[i]? = some (SI v xs)) : ∃ ao cap, v = .slice ao xs.length cap := (h.get i hi).shape2
theorem St.shapeI0 {w0 W : World} {segs : List Seg} {v : Value} {xs : List Int} (h : St w0 W (SI v xs :: segs)) : ∃ ao cap, v = .slice ao xs.length cap := h.shapeI 0 rfl
theorem sizes_max {ss : List ByteArray} (h : ∀ s ∈ ss, 1 ≤ s.size ∧ s.size ≤ 5) : ∀ s ∈ ss, s.size ≤ maxLen := fun s hs => by have := h s hs; unfold maxLen; omega
/-- A cell of a piece of numbers. -/
theorem St.cellAt {w0 W : World} {segs : List Seg} (h : St w0 W segs) {ao : Option Addr} {n cap : Nat} {xs : List Int} (i : Nat) (hi : segs[i]? = some (SI (.slice ao n cap) xs)) {j : Nat} (hj : j < xs.length) :
    ∃ b off, ao = some ⟨b, off, none⟩ ∧ W.cell? ⟨b, off + j, none⟩ = some (.int .i64 (xs.getD j 0)) := h.cells i hi j hj
theorem St.textAt {w0 W : World} {segs : List Seg} (h : St w0 W segs) {ao : Option Addr} {n cap : Nat} {ss : List ByteArray} (i : Nat) (hi : segs[i]? = some (SS (.slice ao n cap) ss)) {j : Nat} (hj : j < ss.length) :
    ∃ b off, ao = some ⟨b, off, none⟩ ∧ W.cell? ⟨b, off + j, none⟩ = some (.string (rowOf ss j)) := h.texts i hi j hj
end Go.Proofs.Ytmlenaelijchjaa
