/- Contracts: a step through two pairings beside each other, by ports. -/
import Derived.Test.YtfpcfolcdpdomaaJThruW
import Derived.Test.YtfpcfolcdpdomaaJPlL
namespace Go.Proofs.Ytfpcfolcdpdomaa
open Go.RowKit
set_option linter.unusedVariables false
set_option linter.unusedSimpArgs false

theorem St.putPl {w0 W : World} (pre post : List Seg) {g : Nat} {x : Stt} (h : St w0 W (pre ++ PB g x :: post)) (y : Stt) :
    St w0 ((W.setCell ⟨g, 0, none⟩ (.int .i64 y.1)).setCell ⟨g, 1, none⟩ (.int .i64 y.2)) (pre ++ PB g y :: post) := by
  have h1 := PB_put (h.own (PB g x) (by simp)) y
  exact h.became pre post _ _ (.inl ⟨rfl, h1.1, h1.2⟩)
theorem St.putPl1 {w0 W : World} (pre post : List Seg) {g : Nat} {x : Stt} (h : St w0 W (pre ++ PB g x :: post)) (y : Nat) :
    St w0 (W.setCell ⟨g, 1, none⟩ (.int .i64 y)) (pre ++ PB g (x.1, y) :: post) := by
  have h1 := World.ownsRow.stored (h.own (PB g x) (by simp)) 1 (.int .i64 y)
  exact h.became pre post _ (PB g (x.1, y)) (.inl ⟨rfl, h1.1, h1.2⟩)
theorem plJ_lo {n m k X : Nat} (h : X < 2 * n + 2 * m) (hT : Two n m k) : sideI n m X = ((plJ n m k X).1 : Int) ∧ atI n m X = ((plJ n m k X).2 : Int) := by
  obtain ⟨h1, h2, -, -⟩ := plJ_cast hT (X := X) (by omega)
  unfold plS at h1
  unfold plA at h2
  rw [if_pos h] at h1 h2
  exact ⟨h1, h2⟩
theorem plJ_hi {n m k Y : Nat} (h : Y < 2 * n + 2 * k) (hT : Two n m k) : sideI n k Y = ((plJ n m k (2 * n + 2 * m + Y)).1 : Int) ∧ atI n k Y = ((plJ n m k (2 * n + 2 * m + Y)).2 : Int) := by
  obtain ⟨h1, h2, -, -⟩ := plJ_cast hT (X := 2 * n + 2 * m + Y) (by omega)
  unfold plS at h1
  unfold plA at h2
  rw [if_neg (by omega), show 2 * n + 2 * m + Y - (2 * n + 2 * m) = Y by omega] at h1 h2
  exact ⟨h1, h2⟩

theorem jthru_any (n m k : Nat) (ao : Option Addr) (cap : Nat) (xs : List Int) (bo : Option Addr) (capb : Nat) (ys : List Int) (hT : Two n m k) (lx : xs.length = 2 * n + 2 * m) (ly : ys.length = 2 * n + 2 * k) (px : pairsB xs = true) (py : pairsB ys = true)
    (W : World) (hx : CellsI W ao xs) (hy : CellsI W bo ys) (X : Nat) (hX : X < xs.length + ys.length) :
    Calls Try.prog 48 #[.agg #[.int .i64 n, .int .i64 m, .int .i64 k, .slice ao xs.length cap, .slice bo ys.length capb], .bool (decide (xs.length ≤ X)), .agg #[.int .i64 (plJ n m k X).1, .int .i64 (plJ n m k X).2]] W fun e w' =>
      e = .returned (.agg #[.int .i64 (plJ n m k (jnx xs ys X)).1, .int .i64 (plJ n m k (jnx xs ys X)).2]) ∧ Below W.heap.size W w' := by
  have hn5 := hT.n5
  have hm1 := hT.m1
  have hk1 := hT.k1
  have hmk := hT.mk5
  obtain ⟨-, -, b1, b2⟩ := plJ_cast hT (X := X) (by omega)
  have hp := plJ_port hT (X := X) (by omega)
  by_cases h : X < xs.length
  · have hd : decide (xs.length ≤ X) = false := decide_eq_false (by omega)
    have hj : jnx xs ys X = cnx xs X := by unfold jnx; rw [if_pos h]
    obtain ⟨c1, c2, -, -⟩ := cnx_get px h
    have := through0_any n m k ao xs.length cap bo ys.length capb xs (plJ n m k X).1 (plJ n m k X).2 X (cnx xs X) W hx rfl hn5 (by omega) (by omega) (by omega) (by omega) h (hp.1 (by omega)) c1 (by omega) (by omega)
    rw [hd, hj, ← (plJ_lo (X := cnx xs X) (by omega) hT).1, ← (plJ_lo (X := cnx xs X) (by omega) hT).2]
    exact this
  · have hd : decide (xs.length ≤ X) = true := decide_eq_true (by omega)
    have hj : jnx xs ys X = 2 * n + 2 * m + cnx ys (X - xs.length) := by unfold jnx; rw [if_neg h, lx]
    obtain ⟨c1, c2, -, -⟩ := cnx_get py (x := X - xs.length) (by omega)
    have := through1_any n m k ao xs.length cap bo ys.length capb ys (plJ n m k X).1 (plJ n m k X).2 (X - xs.length) (cnx ys (X - xs.length)) W hy rfl hn5 (by omega) (by omega) (by omega) (by omega) (by omega) (by rw [lx]; exact hp.2 (by omega)) c1 (by omega) (by omega)
    rw [hd, hj, ← (plJ_hi (Y := cnx ys (X - xs.length)) (by omega) hT).1, ← (plJ_hi (Y := cnx ys (X - xs.length)) (by omega) hT).2]
    exact this
theorem jcross_none {n m k X : Nat} (hT : Two n m k) (hX : X < 4 * n + 2 * m + 2 * k) (hz : mtR n m (4 * n + 2 * m + 2 * k) X = none) (W : World) :
    Calls Try.prog 49 #[.bool (decide (2 * n + 2 * m ≤ X)), .agg #[.int .i64 (plJ n m k X).1, .int .i64 (plJ n m k X).2]] W fun e w' =>
      e = .returned (.tuple #[.bool false, .agg #[.int .i64 (plJ n m k X).1, .int .i64 (plJ n m k X).2]]) ∧ Below W.heap.size W w' := by
  obtain ⟨-, -, b1, b2⟩ := plJ_cast hT hX
  have hc := crosses_any (decide (2 * n + 2 * m ≤ X)) (plJ n m k X).1 (plJ n m k X).2 W (by omega) (by omega)
  have ht : (if decide (2 * n + 2 * m ≤ X) = true then ((plJ n m k X).1 : Int) == 3 else ((plJ n m k X).1 : Int) == 1) = false := by
    rcases plJ_none hT hX hz with ⟨h1, h2, -⟩ | ⟨h1, h2⟩
    · rw [decide_eq_false (by omega), if_neg (by simp)]
      exact beq_eq_false_iff_ne.2 (by omega)
    · rw [decide_eq_true h1, if_pos rfl]
      exact beq_eq_false_iff_ne.2 (by omega)
  rw [ht] at hc
  exact hc
theorem jcross_some {n m k X z : Nat} (hT : Two n m k) (hX : X < 4 * n + 2 * m + 2 * k) (hz : mtR n m (4 * n + 2 * m + 2 * k) X = some z) (W : World) :
    Calls Try.prog 49 #[.bool (decide (2 * n + 2 * m ≤ X)), .agg #[.int .i64 (plJ n m k X).1, .int .i64 (plJ n m k X).2]] W fun e w' =>
      e = .returned (.tuple #[.bool true, .agg #[.int .i64 (plJ n m k z).1, .int .i64 (plJ n m k z).2]]) ∧ Below W.heap.size W w' := by
  obtain ⟨-, -, b1, b2⟩ := plJ_cast hT hX
  have hc := crosses_any (decide (2 * n + 2 * m ≤ X)) (plJ n m k X).1 (plJ n m k X).2 W (by omega) (by omega)
  obtain ⟨e1, e2, h | h⟩ := plJ_some hT hX hz
  · obtain ⟨h1, h2, h3, h4⟩ := h
    rw [decide_eq_false (by omega), h3] at hc
    rw [decide_eq_false (by omega), h3, h4, e1]
    exact hc
  · obtain ⟨h1, h2, h3, h4⟩ := h
    rw [decide_eq_true h1, h3] at hc
    rw [decide_eq_true h1, h3, h4, e1]
    exact hc
theorem jsec_some {n m k X z : Nat} (hT : Two n m k) (hX : X < 4 * n + 2 * m + 2 * k) (hz : mtR n m (4 * n + 2 * m + 2 * k) X = some z) : decide (2 * n + 2 * m ≤ z) = !decide (2 * n + 2 * m ≤ X) := by
  obtain ⟨-, -, h | h⟩ := plJ_some hT hX hz
  · rw [decide_eq_true h.2.1, decide_eq_false (by omega)]; rfl
  · rw [decide_eq_false (by omega), decide_eq_true h.1]; rfl
theorem jsec_nx {xs ys : List Int} (px : pairsB xs = true) {X : Nat} (hX : X < xs.length + ys.length) : decide (xs.length ≤ jnx xs ys X) = decide (xs.length ≤ X) := by
  unfold jnx
  split
  · rename_i h
    have := (cnx_get px h).2.1
    rw [decide_eq_false (by omega), decide_eq_false (by omega)]
  · rw [decide_eq_true (by omega), decide_eq_true (by omega)]
end Go.Proofs.Ytfpcfolcdpdomaa
