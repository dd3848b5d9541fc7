/- Contracts: the cells of a way and how often each comes (cellsOf, timesIn, BeamWay, l2Often). -/
import Derived.Test.YtmlenaelijchjaaRoundL
import Derived.Test.YtmlenaelijchjaaCellW
import Derived.Test.YtmlenaelijchjaaStS
namespace Go.Proofs.Ytmlenaelijchjaa
open Go.RowKit
set_option linter.unusedVariables false
set_option linter.unusedSimpArgs false

theorem l2Often_any (ao : Option Addr) (cap : Nat) (xs : List Int) (x : Int) (w : World) (hx : CellsI w ao xs) (hm : xs.length ≤ 1048576) :
    Calls Try.prog 13 #[.slice ao xs.length cap, .int .i64 x] w fun e w' => e = .returned (.int .i64 (xs.count x : Nat)) ∧ w = w' := by
  go_enter Try.func13, Try.ntmps13
  go_wp2
  go_loop [5, 6] (fun v5 v6 => ∃ k : Nat, k ≤ xs.length ∧ v6 = .int .i64 k ∧ v5 = .int .i64 ((xs.take k).count x : Nat)) (fun _ v6 => xs.length - (intOf v6).toNat)
  case atStart => exact ⟨0, Nat.zero_le _, rfl, rfl⟩
  case round =>
    obtain ⟨k, hk, rfl, rfl⟩ := hrel
    by_cases hlt : k < xs.length
    · obtain ⟨b, off, rfl, hc⟩ := hx k hlt
      have hs : (xs.take (k + 1)).count x = (xs.take k).count x + if xs.getD k 0 = x then 1 else 0 := by
        rw [take_succ_getD hlt, List.count_append, List.count_singleton]
        simp
      have hb : (xs.take k).count x ≤ k := by
        have := List.count_le_length (a := x) (l := xs.take k)
        simp at this
        omega
      have HS := Lib.hid hs
      clear hs hx
      generalize xs.getD k 0 = y at hc HS
      by_cases e : y = x
      · have e1 : (y == x) = true := by simp [e]
        have hs := HS.out
        rw [if_pos e] at hs
        have HS2 := Lib.hid hs
        clear e hs HS
        go_wp2
        go_round
        case rel => exact ⟨k + 1, by omega, by go_num, by rw [HS2.out]; go_num⟩
        case measure => simp [intOf]; omega
      · have e1 : (y == x) = false := by simp [e]
        have hs := HS.out
        rw [if_neg e] at hs
        have HS2 := Lib.hid hs
        clear e hs HS
        go_wp2
        go_round
        case rel => exact ⟨k + 1, by omega, by go_num, by rw [HS2.out]; go_num⟩
        case measure => simp [intOf]; omega
    · obtain rfl : k = xs.length := by omega
      go_wp2
      go_ret
      first | exact ⟨rfl, rfl⟩ | exact ⟨by rw [List.take_length], rfl⟩

/-- The steps L lie at ao. -/
def CellsStt (w : World) (ao : Option Addr) (L : List Stt) : Prop :=
  ∀ i, i < L.length → ∃ b off, ao = some ⟨b, off, none⟩ ∧ w.cell? ⟨b, off + i * 2, none⟩ = some (.int .i64 (L.getD i (0, 0)).1) ∧ w.cell? ⟨b, off + i * 2 + 1, none⟩ = some (.int .i64 (L.getD i (0, 0)).2)
theorem sttCells_get : ∀ (L : List Stt) (i : Nat), i < L.length → (sttCells L)[i * 2]? = some (.int .i64 (L.getD i (0, 0)).1) ∧ (sttCells L)[i * 2 + 1]? = some (.int .i64 (L.getD i (0, 0)).2) := by
  intro L
  induction L with
  | nil => intro i h; simp at h
  | cons x t ih =>
    intro i h
    match i with
    | 0 => exact ⟨rfl, rfl⟩
    | i + 1 =>
      have := ih i (by simpa using h)
      rw [show (i + 1) * 2 = i * 2 + 2 by omega]
      exact this
theorem SStt_cells {w : World} {base : Nat} {ao : Option Addr} {n cap : Nat} {L : List Stt} (h : (SStt (.slice ao n cap) L).own w base) : CellsStt w ao L := by
  intro i hi
  rcases id h.2 with ⟨hv, hn⟩ | ⟨g, cap', cur, hv, hb, hg, _⟩
  · have : L.length = 0 := hn
    omega
  · have hv' : (Value.slice ao n cap) = .slice (some ⟨g, 0, none⟩) L.length cap' := hv
    cases hv'
    obtain ⟨h1, h2⟩ := sttCells_get L i hi
    refine ⟨g, 0, rfl, ?_, ?_⟩
    · have hc := World.ownsRow.cellAt h (i * 2) (by show i * 2 < L.length * 2; omega)
      rw [Nat.zero_add, hc]
      exact h1
    · have hc := World.ownsRow.cellAt h (i * 2 + 1) (by show i * 2 + 1 < L.length * 2; omega)
      rw [Nat.zero_add, hc]
      exact h2
theorem CellsStt.below {B : Nat} {w w' : World} {ao : Option Addr} {L : List Stt} (h : CellsStt w ao L) (hb : Below B w w') (hB : w.heap.size ≤ B) : CellsStt w' ao L := by
  intro i hi
  obtain ⟨b, off, rfl, hc, hd⟩ := h i hi
  exact ⟨b, off, rfl, (hb.cell (p := ⟨b, off + i * 2, none⟩) (Nat.lt_of_lt_of_le (World.block_lt_of_cell? w _ hc) hB)).trans hc, (hb.cell (p := ⟨b, off + i * 2 + 1, none⟩) (Nat.lt_of_lt_of_le (World.block_lt_of_cell? w _ hd) hB)).trans hd⟩
/-- The cells of the first j steps. -/
def fstTo (L : List Stt) (j : Nat) : List Int := (L.take j).map fun y => (y.1 : Int)
theorem fstTo_succ {L : List Stt} {j : Nat} (h : j < L.length) : fstTo L j ++ [((L.getD j (0, 0)).1 : Int)] = fstTo L (j + 1) := by
  rw [fstTo, fstTo, List.take_succ_eq_append_getElem h, List.map_append]
  simp only [List.map_cons, List.map_nil, List.getD_eq_getElem?_getD, List.getElem?_eq_getElem h, Option.getD_some]
theorem fstTo_length {L : List Stt} {j : Nat} (h : j ≤ L.length) : (fstTo L j).length = j := by simp [fstTo]; omega
theorem fstTo_all (L : List Stt) : fstTo L L.length = L.map fun y => (y.1 : Int) := by simp [fstTo]

theorem cell_one_new' (w : World) (o : Obj) (u : Value) (ty : TypeId) : ∀ (j : Nat) (v : Value), [u][j]? = some v → ((w.alloc o).alloc (.cells #[u] ty)).cell? ((⟨w.heap.size + 1, 0, none⟩ : Addr).add j) = some v := by
  have := cell_one_new (w.alloc o) u ty
  rwa [World.size_alloc] at this

end Go.Proofs.Ytmlenaelijchjaa
