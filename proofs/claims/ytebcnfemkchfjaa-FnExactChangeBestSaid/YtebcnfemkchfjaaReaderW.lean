/- Contracts: the reader of a code (l6Open, pick): what it draws lies in its bounds. -/
import Derived.Test.YtebcnfemkchfjaaState
import Derived.Laws.Bits64
namespace Go.Proofs.Ytebcnfemkchfjaa
open Go.RowKit
set_option linter.unusedVariables false

theorem bits_xor_i64_nat (a b : Nat) (ha : a < 4611686018427387904) (hb : b < 4611686018427387904) : bits .xor .i64 (a : Int) (b : Int) = ((a ^^^ b : Nat) : Int) := by
  have hx : a ^^^ b < 2 ^ 62 := Nat.xor_lt_two_pow (by omega) (by omega)
  have h1 : (BitVec.ofInt 64 (a : Int)).toNat = a := by
    rw [BitVec.ofInt_natCast, BitVec.toNat_ofNat]; exact Nat.mod_eq_of_lt (by omega)
  have h2 : (BitVec.ofInt 64 (b : Int)).toNat = b := by
    rw [BitVec.ofInt_natCast, BitVec.toNat_ofNat]; exact Nat.mod_eq_of_lt (by omega)
  show IntKind.i64.wrap ((BitVec.ofInt 64 (a : Int) ^^^ BitVec.ofInt 64 (b : Int)).toNat : Int) = _
  rw [BitVec.toNat_xor, h1, h2]
  exact IntWalk.i64_in _ (by omega)
theorem xor_bound (X : Int) (h0 : 0 ≤ X) (h1 : X ≤ 1000000000000) : 0 ≤ bits .xor .i64 X (X / 64) ∧ bits .xor .i64 X (X / 64) ≤ 9223372036854775807 := by
  obtain ⟨a, rfl⟩ := Int.eq_ofNat_of_zero_le h0
  have d : ((a : Int) / 64) = ((a / 64 : Nat) : Int) := by omega
  have hx : a ^^^ a / 64 < 2 ^ 62 := Nat.xor_lt_two_pow (by omega) (by omega)
  rw [d, bits_xor_i64_nat _ _ (by omega) (by omega)]
  omega

/-- The bytes zs lie at ao. -/
def CellsY (w : World) (ao : Option Addr) (zs : List Int) : Prop :=
  ∀ i, i < zs.length → ∃ b off, ao = some ⟨b, off, none⟩ ∧ w.cell? ⟨b, off + i, none⟩ = some (.int .u8 (zs.getD i 0)) ∧ 0 ≤ zs.getD i 0 ∧ zs.getD i 0 ≤ 255
theorem CellsY.nil (w : World) (ao : Option Addr) : CellsY w ao [] := fun i hi => by simp at hi
theorem CellsY.at {w : World} {ao : Option Addr} {zs : List Int} (h : CellsY w ao zs) {i : Nat} (hi : i < zs.length) :
    ∃ b off, ao = some ⟨b, off, none⟩ ∧ (∀ j, j < zs.length → w.cell? ⟨b, off + j, none⟩ = some (.int .u8 (zs.getD j 0)) ∧ 0 ≤ zs.getD j 0 ∧ zs.getD j 0 ≤ 255) ∧ b < w.heap.size := by
  obtain ⟨b, off, rfl, hc, _⟩ := h i hi
  refine ⟨b, off, rfl, fun j hj => ?_, World.block_lt_of_cell? w _ hc⟩
  obtain ⟨b', off', he, hc'⟩ := h j hj
  simp at he
  obtain ⟨rfl, rfl⟩ := he
  exact hc'
theorem CellsY.below {B : Nat} {w w' : World} {ao : Option Addr} {zs : List Int} (h : CellsY w ao zs) (hb : Below B w w') (hB : w.heap.size ≤ B) : CellsY w' ao zs := by
  intro i hi
  obtain ⟨b, off, rfl, hc, h1, h2⟩ := h i hi
  exact ⟨b, off, rfl, (hb.cell (p := ⟨b, off + i, none⟩) (Nat.lt_of_lt_of_le (World.block_lt_of_cell? w _ hc) hB)).trans hc, h1, h2⟩
theorem cells_of_rowY {w : World} {x : Addr} {len : Nat} {zs : List Int} (hlen : len ≤ zs.length) (h : ∀ i, i < zs.length → w.cell? (x.add i) = some (.int .u8 (zs.getD i 0))) (hw : ∀ n ∈ zs, (Lit.int .u8 n).wf = true) :
    CellsY w (some x) (zs.take len) := by
  intro i hi
  simp only [List.length_take] at hi
  obtain ⟨b, off, rfl, hc⟩ := ints_at h (by omega)
  have hi2 : i < zs.length := by omega
  have e : (zs.take len).getD i 0 = zs.getD i 0 := by
    have h2 : i < len := by omega
    simp [hi2, h2]
  have hb := bounds_u8 (hw (zs.getD i 0) (by simp [hi2]))
  exact ⟨b, off, rfl, by rw [hc i hi2, e], by rw [e]; exact hb.1, by rw [e]; exact hb.2⟩

/-- A reader's block: the code's bytes and how many draws were made. -/
def SR (g : Nat) (ao : Option Addr) (n cap : Nat) (p : Nat) : Seg := ⟨.slice (some ⟨g, 0, none⟩) 2 2, 91, 1, 2, [.slice ao n cap, .int .i64 p]⟩

theorem SR_cells {w : World} {base g : Nat} {ao : Option Addr} {n cap p : Nat} (h : (SR g ao n cap p).own w base) :
    w.cell? ⟨g, 0, none⟩ = some (.slice ao n cap) ∧ w.cell? ⟨g, 1, none⟩ = some (.int .i64 p) ∧ w.frozen? ⟨g, 1, none⟩ = false ∧ g < w.heap.size ∧ base ≤ g :=
  ⟨World.ownsRow.cellAt h 0 (by show 0 < 2 * 1; omega), World.ownsRow.cellAt h 1 (by show 1 < 2 * 1; omega), World.ownsRow.frozenAt h 1, (h.lt g rfl).2, (h.lt g rfl).1⟩
theorem SR_put {w : World} {base g : Nat} {ao : Option Addr} {n cap p : Nat} (h : (SR g ao n cap p).own w base) :
    (SR g ao n cap (p + 1)).own (w.setCell ⟨g, 1, none⟩ (.int .i64 ((p : Int) + 1))) base ∧ w.grownBy (w.setCell ⟨g, 1, none⟩ (.int .i64 ((p : Int) + 1))) (some g) := by
  have := World.ownsRow.stored h 1 (.int .i64 ((p : Int) + 1))
  exact ⟨this.1, this.2⟩

theorem grown_drewN {w w1 : World} {row : Option Nat} (h : w.grownBy w1 row) (n : Nat) : w.grownBy (w1.drewN n) row := ⟨h.os, h.tape, h.output, h.size, h.block⟩

/-- What a draw leaves. -/
def Drawn (w : World) (base g : Nat) (ao : Option Addr) (len cap p : Nat) (n : Int) (e : Ending) (w' : World) : Prop :=
  ∃ r : Int, e = .returned (.int .i64 r) ∧ 0 ≤ r ∧ (1 ≤ n → r < n) ∧ (n < 1 → r = 0) ∧ (SR g ao len cap (p + 1)).own w' base ∧ w.grownBy w' (some g)

theorem pick_any (base g : Nat) (ao : Option Addr) (zs : List Int) (cap p : Nat) (n : Int) (w : World) (hy : CellsY w ao zs) (hr : (SR g ao zs.length cap p).own w base) (hg : ∀ b off, ao = some ⟨b, off, none⟩ → b ≠ g)
    (hp : p ≤ 1000000) (hz : zs.length ≤ 1000000) (hn : n ≤ 1000000000) (hn0 : -1000000000 ≤ n) :
    Calls Try.prog 104 #[.pointer (some ⟨g, 0, none⟩), .int .i64 n] w (Drawn w base g ao zs.length cap p n) := by
  obtain ⟨h0, h1, hf, hlt, _⟩ := SR_cells hr
  have HP := Lib.hid (SR_put hr)
  clear hr
  by_cases hn1 : n < 1
  · go_enter Try.func104, Try.ntmps104
    go_wp2
    go_ret
    exact ⟨0, rfl, by omega, by omega, by omega, HP.out.1, HP.out.2⟩
  · by_cases hl : zs.length = 0
    · have hl2 : ((zs.length : Int) == 0) = true := by simp [hl]
      obtain ⟨N, hN⟩ : ∃ N, N = zs.length := ⟨_, rfl⟩
      rw [← hN] at h0 HP hl2 ⊢
      clear hN hl hz
      go_enter Try.func104, Try.ntmps104
      go_wp2
      go_ret
      exact ⟨0, rfl, by omega, by omega, by omega, HP.out.1, HP.out.2⟩
    · have hl2 : ((zs.length : Int) == 0) = false := by simp; intro h; exact hl (by rw [h]; rfl)
      by_cases hk : p < zs.length
      · obtain ⟨b, off, rfl, hc, hb⟩ := hy.at hk
        obtain ⟨hc1, hc2, hc3⟩ := hc p hk
        have hbg := hg b off rfl
        generalize zs.getD p 0 = y at hc1 hc2 hc3
        have i1 : 0 ≤ y % n := Int.emod_nonneg _ (by omega)
        have i2 : y % n < n := Int.emod_lt_of_pos _ (by omega)
        clear hc hy hg hl
        go_enter Try.func104, Try.ntmps104
        go_wp2
        go_ret
        exact ⟨_, rfl, i1, fun _ => i2, fun h => by omega, HP.out.1, HP.out.2⟩
      · have hpos : 0 < zs.length := by omega
        obtain ⟨b, off, rfl, hc, hb⟩ := hy.at hpos
        have hbg := hg b off rfl
        have m1 : p % zs.length < zs.length := Nat.mod_lt _ hpos
        have m2 : (p * 7 + 3) % zs.length < zs.length := Nat.mod_lt _ hpos
        obtain ⟨hc1, hc2, hc3⟩ := hc (p % zs.length) m1
        obtain ⟨hd1, hd2, hd3⟩ := hc ((p * 7 + 3) % zs.length) m2
        generalize zs.getD (p % zs.length) 0 = y at hc1 hc2 hc3
        generalize zs.getD ((p * 7 + 3) % zs.length) 0 = z at hd1 hd2 hd3
        have q0 : 0 ≤ (p : Int) / zs.length := Int.ediv_nonneg (by omega) (by omega)
        have q1 : (p : Int) / zs.length ≤ p := Int.ediv_le_self _ (by omega)
        have j1 : 0 ≤ (p : Int) % zs.length := Int.emod_nonneg _ (by omega)
        have j2 : (p : Int) % zs.length < zs.length := Int.emod_lt_of_pos _ (by omega)
        have j3 : 0 ≤ ((p : Int) * 7 + 3) % zs.length := Int.emod_nonneg _ (by omega)
        have j4 : ((p : Int) * 7 + 3) % zs.length < zs.length := Int.emod_lt_of_pos _ (by omega)
        have x0 := xor_bound (y * 131 + z * 1117 + p * 29 + (p : Int) / zs.length * 53) (by omega) (by omega)
        obtain ⟨x1, x2⟩ := x0
        have i1 : 0 ≤ bits .xor .i64 (y * 131 + z * 1117 + p * 29 + (p : Int) / zs.length * 53) ((y * 131 + z * 1117 + p * 29 + (p : Int) / zs.length * 53) / 64) % n := Int.emod_nonneg _ (by omega)
        have i2 : bits .xor .i64 (y * 131 + z * 1117 + p * 29 + (p : Int) / zs.length * 53) ((y * 131 + z * 1117 + p * 29 + (p : Int) / zs.length * 53) / 64) % n < n := Int.emod_lt_of_pos _ (by omega)
        clear hc hy hg hl
        go_enter Try.func104, Try.ntmps104
        go_wp2
        go_quiet (fail)
        go_wp2
        go_ret
        exact ⟨_, rfl, i1, fun _ => i2, fun h => by omega, HP.out.1, grown_drewN HP.out.2 _⟩

/-- A draw from an empty code. -/
theorem pick_none (base g : Nat) (ao : Option Addr) (cap p : Nat) (n : Int) (w : World) (hr : (SR g ao 0 cap p).own w base) (hp : p ≤ 1000000) (hn : n ≤ 1000000000) (hn0 : -1000000000 ≤ n) :
    Calls Try.prog 104 #[.pointer (some ⟨g, 0, none⟩), .int .i64 n] w (Drawn w base g ao 0 cap p n) := by
  obtain ⟨h0, h1, hf, hlt, _⟩ := SR_cells hr
  have HP := Lib.hid (SR_put hr)
  clear hr
  by_cases hn1 : n < 1
  · go_enter Try.func104, Try.ntmps104
    go_wp2
    go_ret
    exact ⟨0, rfl, by omega, by omega, by omega, HP.out.1, HP.out.2⟩
  · go_enter Try.func104, Try.ntmps104
    go_wp2
    go_ret
    exact ⟨0, rfl, by omega, by omega, by omega, HP.out.1, HP.out.2⟩

theorem CellsY.take {w : World} {ao : Option Addr} {zs : List Int} (h : CellsY w ao zs) (n : Nat) : CellsY w ao (zs.take n) := by
  intro i hi
  simp only [List.length_take] at hi
  obtain ⟨b, off, rfl, hc, h1, h2⟩ := h i (by omega)
  have e : (zs.take n).getD i 0 = zs.getD i 0 := by
    have h2 : i < n := by omega
    simp [h2]
  exact ⟨b, off, rfl, by rw [e]; exact hc, by rw [e]; exact h1, by rw [e]; exact h2⟩

/-- What l6Open leaves: a reader that has drawn nothing. -/
def Opened (w : World) (ao : Option Addr) (n cap : Nat) (e : Ending) (w' : World) : Prop :=
  e = .returned (.pointer (some ⟨w.heap.size, 0, none⟩)) ∧ (SR w.heap.size ao n cap 0).own w' w.heap.size ∧ Below w.heap.size w w'
theorem opened_own (w : World) (ao : Option Addr) (n cap : Nat) : (SR w.heap.size ao n cap 0).own (w.alloc (.cells #[.slice ao n cap, .int .i64 0] 91)) w.heap.size :=
  World.ownsRow_lit w #[.slice ao n cap, .int .i64 0] 2 (Nat.le_refl _) (by unfold maxLen; omega) rfl

theorem l6Open_any (ao : Option Addr) (cap : Nat) (zs : List Int) (w : World) (hy : CellsY w ao zs) (hm : zs.length ≤ maxLen) (hcap : zs.length ≤ cap) (hcm : cap ≤ maxLen) :
    Calls Try.prog 91 #[.slice ao zs.length cap] w (Opened w ao (zs.take 2000).length cap) := by
  unfold maxLen at hm hcm
  by_cases h : 2000 < zs.length
  · obtain ⟨b, off, rfl, hc, hb⟩ := hy.at (i := 0) (by omega)
    have he : (zs.take 2000).length = 2000 := by simp; omega
    rw [he]
    clear hc hy he
    go_enter Try.func91, Try.ntmps91
    go_wp2
    go_ret
    exact ⟨rfl, opened_own _ _ _ _, (Below.refl _ _).alloc (Nat.le_refl _) _⟩
  · have he : (zs.take 2000).length = zs.length := by simp; omega
    rw [he]
    clear hy he
    go_enter Try.func91, Try.ntmps91
    go_wp2
    go_ret
    exact ⟨rfl, opened_own _ _ _ _, (Below.refl _ _).alloc (Nat.le_refl _) _⟩
end Go.Proofs.Ytebcnfemkchfjaa
