/- Contracts: a grid with another letter in a cell (put, other, mirrorAt). -/
/- Contracts: a grid with another letter in a cell, as the spec puts it (l1Put, l4Exchange, l4Mirror). -/
import Derived.Test.YtcigmmafmogmkaaMakeW
import Derived.Test.YtcigmmafmogmkaaCellW
import Derived.Lib.ConvBytes
namespace Go.Proofs.Ytcigmmafmogmkaa
open Go.RowKit
set_option linter.unusedVariables false
set_option linter.unusedSimpArgs false

theorem cell_old {B : Nat} {w w' : World} {b : Nat} {v : Value} (h : w.cell? ⟨b, 0, none⟩ = some v) (hb : Below B w w') (hB : w.heap.size ≤ B) : w'.cell? ⟨b, 0, none⟩ = some v :=
  (hb.cell (p := ⟨b, 0, none⟩) (Nat.lt_of_lt_of_le (World.block_lt_of_cell? w _ h) hB)).trans h
theorem st_alloc {w0 W : World} {segs : List Seg} (h : St w0 W segs) (o : Obj) : St w0 (W.alloc o) segs := h.step ((Below.refl _ _).alloc (Nat.le_refl _) o)

/-- At a grid: is it a cell? -/
def cellB (ss : List ByteArray) (c : Int) : Bool := gridB ss && inB c 0 (((gr ss).n * (gr ss).m : Nat) - 1)
theorem cellB_nat {ss : List ByteArray} {c : Int} (h : cellB ss c = true) : gridB ss = true ∧ ∃ q : Nat, c = q ∧ q < (gr ss).n * (gr ss).m := by
  simp only [cellB, Bool.and_eq_true, inB_iff] at h
  have := h.2
  exact ⟨h.1, c.toNat, by omega, by omega⟩
/-- At a grid: is it a cell with a mirror? -/
def mirB (ss : List ByteArray) (c : Int) : Bool := cellB ss c && !((gr ss).sig c.toNat == 46)
theorem bytes_frozen (w : World) (e : TypeId) (s : ByteArray) (j : Nat) (hj : j < s.size) : (Lib.bytesWorld w e s).frozen? ⟨w.heap.size, j, none⟩ = false := by
  have hs : s.size ≤ (Lib.bytesCells w e s).size := by
    show s.data.size ≤ _
    simp [Lib.bytesCells]
  simp [World.frozen?, Lib.bytesWorld_at_new]
  omega
theorem bytes_below (w : World) (e : TypeId) (s : ByteArray) : Below w.heap.size w (Lib.bytesWorld w e s) := by
  refine ⟨rfl, rfl, rfl, by rw [Lib.bytesWorld_size]; omega, fun j hj => Lib.bytesWorld_at_old w e s j hj⟩
theorem bytes_put (w : World) (s : ByteArray) (k : Nat) (L : Int) (hk : k < s.size) :
    (∃ u, (Lib.bytesWorld w 5 s).cell? ⟨w.heap.size, k, none⟩ = some u) ∧ (Lib.bytesWorld w 5 s).frozen? ⟨w.heap.size, k, none⟩ = false ∧
    Below w.heap.size w ((Lib.bytesWorld w 5 s).setCell ⟨w.heap.size, k, none⟩ (.int .u8 L)) ∧
    ∀ cap, (convert 29 9 (.slice (some ⟨w.heap.size, 0, none⟩) s.size cap)).run Try.prog ((Lib.bytesWorld w 5 s).setCell ⟨w.heap.size, k, none⟩ (.int .u8 L)) =
      .ok (.string (rowT s.size fun j => if j = k then L else sgn s j)) ((Lib.bytesWorld w 5 s).setCell ⟨w.heap.size, k, none⟩ (.int .u8 L)) := by
  have hb := bytes_below w 5 s
  refine ⟨⟨_, Lib.bytesWorld_cell w 5 s k hk⟩, bytes_frozen w 5 s k hk, hb.trans ?_, fun cap => ?_⟩
  · exact (Below.refl _ _).setCell (by simp) _
  · refine run_convert_bytes_arg _ _ _ Try.underlying29 Try.underlying5 w.heap.size 0 s.size cap _ (by simp) (fun i hi => ?_) _ Try.underlying9
    rw [Nat.zero_add]
    have hc := Lib.bytesWorld_cell w 5 s i hi
    by_cases e : i = k
    · subst e
      rw [World.cell?_setCell_same _ _ _ hc]
      simp [hi]
    · have hne : (⟨w.heap.size, k, none⟩ : Addr) ≠ ⟨w.heap.size, i, none⟩ := fun h => e (congrArg (fun a : Addr => a.off) h).symm
      rw [World.cell?_setCell_other _ _ _ _ hne, hc]
      simp [hi, e, sgn]

theorem putS_set {ss : List ByteArray} (hg : gridB ss = true) {cell : Nat} (L : Int) (hc : cell < (gr ss).n * (gr ss).m) :
    ss.set (cell / (gr ss).m) (rowT (rowOf ss (cell / (gr ss).m)).size fun j => if j = cell % (gr ss).m then L else sgn (rowOf ss (cell / (gr ss).m)) j) = putS ss cell L := by
  have hok := gr_ok hg
  have hr : cell / (gr ss).m < ss.length := Gr.row_lt hok hc
  rw [gr_row hg hr]
  apply List.ext_getElem
  · rw [List.length_set]
    unfold putS
    rw [gridT_length]
    rfl
  · intro i h1 h2
    rw [List.length_set] at h1
    have e : (putS ss cell L)[i] = rowT (gr ss).m ((gr ss).putF cell L i) := by simp [putS, gridT]
    rw [e, List.getElem_set]
    split
    · rename_i h
      subst h
      refine rowT_congr fun k hk => ?_
      unfold Gr.putF
      have hce := Gr.cell_eq hok cell
      by_cases e2 : k = cell % (gr ss).m
      · rw [if_pos e2, if_pos (by omega)]
      · rw [if_neg e2, if_neg (by omega)]
        rfl
    · rename_i h
      have hr : rowOf ss i = ss[i] := by simp [rowOf, h1]
      rw [← hr]
      refine (rowT_of (rowOf ss i)).symm.trans ?_
      rw [gr_row hg h1]
      refine rowT_congr fun k hk => ?_
      unfold Gr.putF
      rw [if_neg]
      · rfl
      · intro e2
        apply h
        rw [← e2, Gr.div_of hok hk]

theorem SS_at2 {w : World} {base g cap : Nat} {ss : List ByteArray} (h : (SS (.slice (some ⟨g, 0, none⟩) ss.length cap) ss).own w base) {i : Nat} (hi : i < ss.length) :
    w.cell? ⟨g, i, none⟩ = some (.string (rowOf ss i)) ∧ w.frozen? ⟨g, i, none⟩ = false := by
  have hc := World.ownsRow.cellAt h i (by show i < ss.length * 1; omega)
  refine ⟨?_, World.ownsRow.frozenAt h i⟩
  rw [hc]
  simp [rowOf, hi, SS]
theorem SS_blk {w : World} {base : Nat} {v : Value} {ss : List ByteArray} (h : (SS v ss).own w base) (h1 : 1 ≤ ss.length) : ∃ g cap, v = .slice (some ⟨g, 0, none⟩) ss.length cap := by
  rcases h.2 with ⟨hv, hn⟩ | ⟨g, cap, cur, hv, _⟩
  · have h0 : ss.length = 0 := hn
    omega
  · exact ⟨g, cap, hv⟩
theorem st_ss_nil (w : World) : St w (w.alloc (.cells #[] 9)) [SS (.slice (some ⟨w.heap.size, 0, none⟩) 0 0) []] :=
  (St.init w).addSeg (World.ownsRow_made w #[] 0 (Nat.le_refl _) (Nat.zero_le _) rfl) ((Below.refl _ _).alloc (Nat.le_refl _) (.cells #[] 9))
/-- 'append(s, ys...)', s a piece of texts. -/
theorem wpAddS (w : World) {ops : Array Oper} {rest : List Oper} {o : Oper} {a : Act} {Q : Exit → Act → World → Prop}
    (hg : o.guard = none) (sl x : Operand) (ho : o.op = .call { callee := .builtin .append, args := #[sl, x], argTypes := #[22, 22] }) (base : Nat) (v : Value) (xs ys : List ByteArray) (ao : Option Addr) (cap : Nat)
    (hs : a.eval sl = v) (hown : (SS v xs).own w base) (hx : a.eval x = .slice ao ys.length cap) (hc : CellsS w ao ys) (hpos : 0 < ys.length) (hl : xs.length + ys.length ≤ 4194304)
    (hK : ∀ v' w', Became w w' base (SS v xs) (SS v' (xs ++ ys)) → wpList Try.prog ops Q rest (a.put o.dst v') w') : wpList Try.prog ops Q (o :: rest) a w := by
  obtain ⟨b, off, rfl, hcc, _⟩ := hc.at hpos
  refine wpAppendSt elemS w hg sl x ho base (SS v xs) rfl rfl hs hown ⟨b, off, none⟩ ys.length cap (ys.map Value.string) hx (by simp) (fun j u hu => ?_) ?_ (by simp only [SS]; unfold maxLen; omega) (by simp only [SS]; omega) ?_
  · rw [List.getElem?_map] at hu
    obtain ⟨y, hy, rfl⟩ := Option.map_eq_some_iff.1 hu
    obtain ⟨hj, rfl⟩ := List.getElem?_eq_some_iff.1 hy
    rw [Go.WideShapes.add_plain, hcc j hj]
    simp [rowOf, hj]
  · intro u hu
    obtain ⟨q, _, rfl⟩ := List.mem_map.1 hu
    rfl
  · intro v' w' hb
    refine hK v' w' ?_
    have e : (⟨v', 9, 1, xs.length + ys.length, xs.map Value.string ++ ys.map Value.string⟩ : Seg) = SS v' (xs ++ ys) := by simp [SS]
    rw [← e]
    exact hb

end Go.Proofs.Ytcigmmafmogmkaa
