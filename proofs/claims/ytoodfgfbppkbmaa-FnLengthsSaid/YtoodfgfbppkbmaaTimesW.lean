/- Contracts: the cells of a way and how often each comes (cellsOf, timesIn, BeamWay, l2Often). -/
import Derived.Test.YtoodfgfbppkbmaaRoundL
import Derived.Test.YtoodfgfbppkbmaaCellW
import Derived.Test.YtoodfgfbppkbmaaStS
namespace Go.Proofs.Ytoodfgfbppkbmaa
open Go.RowKit
set_option linter.unusedVariables false
set_option linter.unusedSimpArgs false

/-- The steps L lie at ao. -/
def CellsStt (w : World) (ao : Option Addr) (L : List Stt) : Prop :=
  ∀ i, i < L.length → ∃ b off, ao = some ⟨b, off, none⟩ ∧ w.cell? ⟨b, off + i * 2, none⟩ = some (.int .i64 (L.getD i (0, 0)).1) ∧ w.cell? ⟨b, off + i * 2 + 1, none⟩ = some (.int .i64 (L.getD i (0, 0)).2)
theorem sttCells_get : ∀ (L : List Stt) (i : Nat), i < L.length → (sttCells L)[i * 2]? = some (.int .i64 (L.getD i (0, 0)).1) ∧ (sttCells L)[i * 2 + 1]? = some (.int .i64 (L.getD i (0, 0)).2) := by
  intro L
  induction L with
  | nil => intro i h; simp at h
  | cons x t ih =>
    intro i h
    match i with
    | 0 => exact ⟨rfl, rfl⟩
    | i + 1 =>
      have := ih i (by simpa using h)
      rw [show (i + 1) * 2 = i * 2 + 2 by omega]
      exact this
theorem SStt_cells {w : World} {base : Nat} {ao : Option Addr} {n cap : Nat} {L : List Stt} (h : (SStt (.slice ao n cap) L).own w base) : CellsStt w ao L := by
  intro i hi
  rcases id h.2 with ⟨hv, hn⟩ | ⟨g, cap', cur, hv, hb, hg, _⟩
  · have : L.length = 0 := hn
    omega
  · have hv' : (Value.slice ao n cap) = .slice (some ⟨g, 0, none⟩) L.length cap' := hv
    cases hv'
    obtain ⟨h1, h2⟩ := sttCells_get L i hi
    refine ⟨g, 0, rfl, ?_, ?_⟩
    · have hc := World.ownsRow.cellAt h (i * 2) (by show i * 2 < L.length * 2; omega)
      rw [Nat.zero_add, hc]
      exact h1
    · have hc := World.ownsRow.cellAt h (i * 2 + 1) (by show i * 2 + 1 < L.length * 2; omega)
      rw [Nat.zero_add, hc]
      exact h2
theorem CellsStt.below {B : Nat} {w w' : World} {ao : Option Addr} {L : List Stt} (h : CellsStt w ao L) (hb : Below B w w') (hB : w.heap.size ≤ B) : CellsStt w' ao L := by
  intro i hi
  obtain ⟨b, off, rfl, hc, hd⟩ := h i hi
  exact ⟨b, off, rfl, (hb.cell (p := ⟨b, off + i * 2, none⟩) (Nat.lt_of_lt_of_le (World.block_lt_of_cell? w _ hc) hB)).trans hc, (hb.cell (p := ⟨b, off + i * 2 + 1, none⟩) (Nat.lt_of_lt_of_le (World.block_lt_of_cell? w _ hd) hB)).trans hd⟩
/-- The cells of the first j steps. -/
def fstTo (L : List Stt) (j : Nat) : List Int := (L.take j).map fun y => (y.1 : Int)
theorem fstTo_succ {L : List Stt} {j : Nat} (h : j < L.length) : fstTo L j ++ [((L.getD j (0, 0)).1 : Int)] = fstTo L (j + 1) := by
  rw [fstTo, fstTo, List.take_succ_eq_append_getElem h, List.map_append]
  simp only [List.map_cons, List.map_nil, List.getD_eq_getElem?_getD, List.getElem?_eq_getElem h, Option.getD_some]
theorem fstTo_length {L : List Stt} {j : Nat} (h : j ≤ L.length) : (fstTo L j).length = j := by simp [fstTo]; omega
theorem fstTo_all (L : List Stt) : fstTo L L.length = L.map fun y => (y.1 : Int) := by simp [fstTo]

theorem cell_one_new' (w : World) (o : Obj) (u : Value) (ty : TypeId) : ∀ (j : Nat) (v : Value), [u][j]? = some v → ((w.alloc o).alloc (.cells #[u] ty)).cell? ((⟨w.heap.size + 1, 0, none⟩ : Addr).add j) = some v := by
  have := cell_one_new (w.alloc o) u ty
  rwa [World.size_alloc] at this

theorem cellsOf_any (ao : Option Addr) (cap : Nat) (L : List Stt) (w : World) (hx : CellsStt w ao L) (hm : L.length ≤ 1048576) :
    Calls Try.prog 78 #[.slice ao L.length cap] w fun e w' => ∃ v, e = .returned v ∧ St w w' [SI v (L.map fun y => (y.1 : Int))] := by
  have sta := ((St.init w).addSeg (s := SI (.slice (some ⟨w.heap.size, 0, none⟩) 0 0) []) (World.ownsRow_made w #[] 0 (Nat.le_refl _) (Nat.zero_le _) rfl) ((Below.refl _ _).alloc (Nat.le_refl _) (.cells #[] 3)))
  go_enter Try.func78, Try.ntmps78
  go_wp2
  go_loopw [3, 9] (fun v3 v9 wr => ∃ (j : Nat) (a c : _), j ≤ L.length ∧ v9 = .int .i64 j ∧ v3 = .slice a j c ∧ St w wr [SI v3 (fstTo L j)]) (fun _ v9 _ => L.length - (intOf v9).toNat)
  case atStart => exact ⟨0, _, _, Nat.zero_le _, rfl, rfl, sta⟩
  case round =>
    clear sta
    obtain ⟨j, a3, c3, hj, rfl, rfl, st⟩ := hrel
    by_cases hlt : j < L.length
    · obtain ⟨b, off, rfl, hc, hd⟩ := (hx.below st.below (Nat.le_refl _)) j hlt
      have H1 := Lib.hid (fstTo_succ hlt)
      have L1 := Lib.hid (fstTo_length hj)
      generalize L.getD j (0, 0) = y at hc hd H1
      clear hx
      have st2 := (st.step ((Below.refl _ _).alloc (Nat.le_refl _) (.cells #[.int .i64 y.1, .int .i64 y.2] 84)))
      have st3 := st2.step ((Below.refl _ _).alloc (Nat.le_refl _) (.cells #[.int .i64 y.1] 3))
      have HS3 := Lib.hid st3
      clear st2 st3 st
      go_wp2_with (at_builtin; refine wpPushI _ rfl _ _ rfl w.heap.size _ _ (y.1 : Int) _ rfl (HS3.out.own _ List.mem_cons_self) rfl (cell_one_new' _ _ _ _) (by rw [L1.out]; omega) ?_; intro v' w4 hbec)
      have st4 := HS3.out.became0 hbec
      rw [H1.out] at st4
      obtain ⟨a2, c2, hv2⟩ := st4.shapeI0
      rw [fstTo_length (by omega)] at hv2
      subst hv2
      have HS4 := Lib.hid st4
      clear hbec st4
      go_wp2
      go_roundw
      case rel => exact ⟨j + 1, a2, c2, by omega, by go_num, rfl, HS4.out⟩
      case measure => simp [intOf]; omega
    · obtain rfl : j = L.length := by omega
      rw [fstTo_all] at st
      have ST := Lib.hid st
      clear st
      go_wp2
      go_ret
      exact ⟨_, rfl, ST.out⟩

theorem iBeamWay_any (ao : Option Addr) (cap : Nat) (ss : List ByteArray) (p : Int) (w : World) (hx : CellsS w ao ss) (hm : ss.length ≤ maxLen) (hsz : ∀ s ∈ ss, s.size ≤ maxLen) :
    Calls Try.prog 48 #[.slice ao ss.length cap, .int .i64 p] w fun e w' => ∃ v, e = .returned (.tuple #[v, .bool (wayB ss p)]) ∧ St w w' [SI v (wayL ss p)] := by
  have HPO := Lib.hid (portOk_any ao cap ss p w hx hm hsz)
  cases hb : wayB ss p
  · have HB := Lib.hid (show (gridB ss && inB p 0 ((gr ss).ports - 1)) = false from hb)
    have HL := Lib.hid (show wayL ss p = [] by simp [wayL, hb])
    have sta := ((St.init w).addSeg (s := SI (.slice (some ⟨w.heap.size, 0, none⟩) 0 0) []) (World.ownsRow_made w #[] 0 (Nat.le_refl _) (Nat.zero_le _) rfl) ((Below.refl _ _).alloc (Nat.le_refl _) (.cells #[] 3)))
    have ST := Lib.hid sta
    clear hb hx hsz sta
    go_enter Try.func48, Try.ntmps48
    go_wp2_with fail
    refine HPO.out.mono ?_
    rintro e w2 ⟨rfl, rfl⟩
    rw [HB.out]
    go_wp2
    go_ret2
    exact ⟨_, rfl, by rw [HL.out]; exact ST.out⟩
  · obtain ⟨hg, q, rfl, hq⟩ := wayB_nat hb
    have HB := Lib.hid (show (gridB ss && inB q 0 ((gr ss).ports - 1)) = true from hb)
    obtain ⟨K, y, hB⟩ := Gr.beam_of (gr_ok hg) hq
    have hL : wayL ss q = ((gr ss).wayTo ((gr ss).ent q) (K + 1)).map fun y => (y.1 : Int) := by
      simp only [wayL, hb, if_true, Int.toNat_natCast, Gr.wayI, Gr.lenOf_eq hB, Gr.cellsTo]
    have HL := Lib.hid hL
    have hK := hB.lt
    have HBE := Lib.hid (beam_any ao cap ss q K y w hx hg hq hB)
    have HLE := Lib.hid (Gr.wayTo_length (gr ss) ((gr ss).ent q) (K + 1))
    clear hb hx hsz hB hg hq hL
    go_enter Try.func48, Try.ntmps48
    go_wp2_with fail
    refine HPO.out.mono ?_
    rintro e w2 ⟨rfl, rfl⟩
    rw [HB.out]
    go_wp2_with fail
    refine HBE.out.mono ?_
    rintro e w2 ⟨v, rfl, o, b⟩
    have st := (St.init w).addSeg o b
    obtain ⟨a2, c2, rfl, _⟩ := SStt_shape o
    have hc := SStt_cells o
    have ST := Lib.hid st
    have HC := Lib.hid hc
    clear o b st hc
    go_wp2_with fail
    refine (cellsOf_any a2 c2 _ _ HC.out (by rw [HLE.out]; omega)).mono ?_
    rintro e w3 ⟨v, rfl, s3⟩
    have ST3 := Lib.hid (ST.out.join s3).drop1
    clear s3
    go_wp2
    go_ret2
    exact ⟨_, rfl, by rw [HL.out]; exact ST3.out⟩

end Go.Proofs.Ytoodfgfbppkbmaa
