/- The places of the ports of two pairings beside each other: plain facts. -/
import Derived.Test.YtfpcfolcdpdomaaJoinL
namespace Go.Proofs.Ytfpcfolcdpdomaa
set_option linter.unusedVariables false
set_option linter.unusedSimpArgs false

def plS (n m k X : Nat) : Int := if X < 2 * n + 2 * m then sideI n m X else sideI n k (X - (2 * n + 2 * m) : Nat)
def plA (n m k X : Nat) : Int := if X < 2 * n + 2 * m then atI n m X else atI n k (X - (2 * n + 2 * m) : Nat)
def chkO (n m k p : Nat) : Bool :=
  if idxJ n m k p < 2 * n + 2 * m then sideI n ((m : Int) + k) p == plS n m k (idxJ n m k p) && atI n ((m : Int) + k) p == plA n m k (idxJ n m k p) && (plS n m k (idxJ n m k p) == 3 || ((plS n m k (idxJ n m k p) == 0 || plS n m k (idxJ n m k p) == 2) && decide (plA n m k (idxJ n m k p) < m)))
  else sideI n ((m : Int) + k) p == plS n m k (idxJ n m k p) && ((plS n m k (idxJ n m k p) == 1 && atI n ((m : Int) + k) p == plA n m k (idxJ n m k p)) || ((plS n m k (idxJ n m k p) == 0 || plS n m k (idxJ n m k p) == 2) && atI n ((m : Int) + k) p == plA n m k (idxJ n m k p) + m))
def chkC (n m k X : Nat) : Bool :=
  match mtR n m (4 * n + 2 * m + 2 * k) X with
  | none => if X < 2 * n + 2 * m then (plS n m k X != 1) && (portI n ((m : Int) + k) (plS n m k X) (plA n m k X) == nmI n m k X)
      else (plS n m k X == 1 && portI n ((m : Int) + k) 1 (plA n m k X) == nmI n m k X) || ((plS n m k X == 0 || plS n m k X == 2) && portI n ((m : Int) + k) (plS n m k X) (plA n m k X + m) == nmI n m k X)
  | some z => plA n m k z == plA n m k X && decide (plA n m k X < n) && (if X < 2 * n + 2 * m then plS n m k X == 1 && decide (2 * n + 2 * m ≤ z) && plS n m k z == 3 else plS n m k X == 3 && decide (z < 2 * n + 2 * m) && plS n m k z == 1)
def chkP (n m k X : Nat) : Bool :=
  decide (0 ≤ plA n m k X) && decide (plA n m k X ≤ 20) && decide (0 ≤ plS n m k X) && decide (plS n m k X ≤ 3) && (if X < 2 * n + 2 * m then portI n m (plS n m k X) (plA n m k X) == (X : Int) else portI n k (plS n m k X) (plA n m k X) == ((X - (2 * n + 2 * m) : Nat) : Int))
theorem chkO_all : ∀ n ∈ [1, 2, 3, 4, 5], ∀ m ∈ [1, 2, 3, 4], ∀ k ∈ List.range (6 - m), 1 ≤ k → ∀ p ∈ List.range (2 * n + 2 * m + 2 * k), chkO n m k p = true := by decide +kernel
theorem chkX_all : ∀ n ∈ [1, 2, 3, 4, 5], ∀ m ∈ [1, 2, 3, 4], ∀ k ∈ List.range (6 - m), 1 ≤ k → ∀ X ∈ List.range (4 * n + 2 * m + 2 * k), (chkC n m k X && chkP n m k X) = true := by decide +kernel
theorem mem_n {n : Nat} (h1 : 1 ≤ n) (h2 : n ≤ 5) : n ∈ [1, 2, 3, 4, 5] := by simp; omega
theorem mem_m {m : Nat} (h1 : 1 ≤ m) (h2 : m ≤ 4) : m ∈ [1, 2, 3, 4] := by simp; omega

/-- The place of a port, as two plain numbers. -/
def plJ (n m k X : Nat) : Nat × Nat := ((plS n m k X).toNat, (plA n m k X).toNat)
structure Two (n m k : Nat) : Prop where
  n1 : 1 ≤ n
  n5 : n ≤ 5
  m1 : 1 ≤ m
  k1 : 1 ≤ k
  mk5 : m + k ≤ 5
theorem chkO_at {n m k p : Nat} (h : Two n m k) (hp : p < 2 * n + 2 * m + 2 * k) : chkO n m k p = true := chkO_all n (mem_n h.n1 h.n5) m (mem_m h.m1 (by have := h.mk5; have := h.k1; omega)) k (List.mem_range.2 (by have := h.mk5; omega)) h.k1 p (List.mem_range.2 hp)
theorem chkX_at {n m k X : Nat} (h : Two n m k) (hX : X < 4 * n + 2 * m + 2 * k) : chkC n m k X = true ∧ chkP n m k X = true := Bool.and_eq_true_iff.1 (chkX_all n (mem_n h.n1 h.n5) m (mem_m h.m1 (by have := h.mk5; have := h.k1; omega)) k (List.mem_range.2 (by have := h.mk5; omega)) h.k1 X (List.mem_range.2 hX))
theorem plJ_cast {n m k X : Nat} (h : Two n m k) (hX : X < 4 * n + 2 * m + 2 * k) : plS n m k X = ((plJ n m k X).1 : Int) ∧ plA n m k X = ((plJ n m k X).2 : Int) ∧ (plJ n m k X).1 ≤ 3 ∧ (plJ n m k X).2 ≤ 20 := by
  have hc := (chkX_at h hX).2
  simp only [chkP, Bool.and_eq_true, decide_eq_true_eq] at hc
  obtain ⟨⟨⟨⟨h1, h2⟩, h3⟩, h4⟩, _⟩ := hc
  show _ = (((plS n m k X).toNat : Nat) : Int) ∧ _ = (((plA n m k X).toNat : Nat) : Int) ∧ (plS n m k X).toNat ≤ 3 ∧ (plA n m k X).toNat ≤ 20
  omega
theorem plJ_port {n m k X : Nat} (h : Two n m k) (hX : X < 4 * n + 2 * m + 2 * k) : (X < 2 * n + 2 * m → portI n m ((plJ n m k X).1 : Nat) ((plJ n m k X).2 : Nat) = (X : Int)) ∧ (2 * n + 2 * m ≤ X → portI n k ((plJ n m k X).1 : Nat) ((plJ n m k X).2 : Nat) = ((X - (2 * n + 2 * m) : Nat) : Int)) := by
  have hc := (chkX_at h hX).2
  obtain ⟨h1, h2, -, -⟩ := plJ_cast h hX
  rw [← h1, ← h2]
  simp only [chkP, Bool.and_eq_true, decide_eq_true_eq] at hc
  have h5 := hc.2
  constructor
  · intro hl
    rw [if_pos hl] at h5
    exact beq_iff_eq.1 h5
  · intro hl
    rw [if_neg (by omega)] at h5
    exact beq_iff_eq.1 h5
/-- Where an outer port lies in its own pairing. -/
theorem plJ_outer {n m k p : Nat} (h : Two n m k) (hp : p < 2 * n + 2 * m + 2 * k) :
    (idxJ n m k p < 2 * n + 2 * m ∧ sideI n ((m : Int) + k) p = ((plJ n m k (idxJ n m k p)).1 : Int) ∧ atI n ((m : Int) + k) p = ((plJ n m k (idxJ n m k p)).2 : Int) ∧ ((plJ n m k (idxJ n m k p)).1 = 3 ∨ (((plJ n m k (idxJ n m k p)).1 = 0 ∨ (plJ n m k (idxJ n m k p)).1 = 2) ∧ (plJ n m k (idxJ n m k p)).2 < m))) ∨
    (2 * n + 2 * m ≤ idxJ n m k p ∧ sideI n ((m : Int) + k) p = ((plJ n m k (idxJ n m k p)).1 : Int) ∧ (((plJ n m k (idxJ n m k p)).1 = 1 ∧ atI n ((m : Int) + k) p = ((plJ n m k (idxJ n m k p)).2 : Int)) ∨ (((plJ n m k (idxJ n m k p)).1 = 0 ∨ (plJ n m k (idxJ n m k p)).1 = 2) ∧ atI n ((m : Int) + k) p = ((plJ n m k (idxJ n m k p)).2 : Int) + m))) := by
  have hc := chkO_at h hp
  obtain ⟨h1, h2, -, -⟩ := plJ_cast h (nmI_idx hp).2
  unfold chkO at hc
  rw [h1, h2] at hc
  generalize plJ n m k (idxJ n m k p) = y at *
  split at hc
  · rename_i hl
    left
    simp only [Bool.and_eq_true, Bool.or_eq_true, beq_iff_eq, decide_eq_true_eq] at hc
    refine ⟨hl, hc.1.1, hc.1.2, ?_⟩
    omega
  · rename_i hl
    right
    simp only [Bool.and_eq_true, Bool.or_eq_true, beq_iff_eq, decide_eq_true_eq] at hc
    refine ⟨by omega, hc.1, ?_⟩
    omega
/-- Where a port is glued. -/
theorem plJ_some {n m k X z : Nat} (h : Two n m k) (hX : X < 4 * n + 2 * m + 2 * k) (hz : mtR n m (4 * n + 2 * m + 2 * k) X = some z) :
    (plJ n m k z).2 = (plJ n m k X).2 ∧ (plJ n m k X).2 < n ∧ ((X < 2 * n + 2 * m ∧ 2 * n + 2 * m ≤ z ∧ (plJ n m k X).1 = 1 ∧ (plJ n m k z).1 = 3) ∨ (2 * n + 2 * m ≤ X ∧ z < 2 * n + 2 * m ∧ (plJ n m k X).1 = 3 ∧ (plJ n m k z).1 = 1)) := by
  have hc := (chkX_at h hX).1
  have hn1 := h.n1
  obtain ⟨h1, h2, -, -⟩ := plJ_cast h hX
  obtain ⟨h3, h4, -, -⟩ := plJ_cast h (mtR_lt (by omega) hz).2.1
  unfold chkC at hc
  rw [hz] at hc
  dsimp only at hc
  rw [h1, h2, h3, h4] at hc
  generalize plJ n m k X = y at *
  generalize plJ n m k z = u at *
  split at hc
  · rename_i hl
    simp only [Bool.and_eq_true, Bool.or_eq_true, beq_iff_eq, decide_eq_true_eq] at hc
    obtain ⟨⟨a1, a2⟩, ⟨a3, a4⟩, a5⟩ := hc
    exact ⟨by omega, by omega, .inl ⟨hl, a4, by omega, by omega⟩⟩
  · rename_i hl
    simp only [Bool.and_eq_true, Bool.or_eq_true, beq_iff_eq, decide_eq_true_eq] at hc
    obtain ⟨⟨a1, a2⟩, ⟨a3, a4⟩, a5⟩ := hc
    exact ⟨by omega, by omega, .inr ⟨by omega, a4, by omega, by omega⟩⟩
/-- A port that is not glued, and its outer number. -/
theorem plJ_none {n m k X : Nat} (h : Two n m k) (hX : X < 4 * n + 2 * m + 2 * k) (hz : mtR n m (4 * n + 2 * m + 2 * k) X = none) :
    (X < 2 * n + 2 * m ∧ (plJ n m k X).1 ≠ 1 ∧ portI n ((m : Int) + k) ((plJ n m k X).1 : Nat) ((plJ n m k X).2 : Nat) = nmI n m k X) ∨
    (2 * n + 2 * m ≤ X ∧ (((plJ n m k X).1 = 1 ∧ portI n ((m : Int) + k) 1 ((plJ n m k X).2 : Nat) = nmI n m k X) ∨ (((plJ n m k X).1 = 0 ∨ (plJ n m k X).1 = 2) ∧ portI n ((m : Int) + k) ((plJ n m k X).1 : Nat) (((plJ n m k X).2 : Nat) + (m : Int)) = nmI n m k X))) := by
  have hc := (chkX_at h hX).1
  obtain ⟨h1, h2, -, -⟩ := plJ_cast h hX
  unfold chkC at hc
  rw [hz] at hc
  dsimp only at hc
  rw [h1, h2] at hc
  generalize plJ n m k X = y at *
  split at hc
  · rename_i hl
    simp only [Bool.and_eq_true, bne_iff_ne, beq_iff_eq] at hc
    exact .inl ⟨hl, fun e => hc.1 (by rw [e]; rfl), hc.2⟩
  · rename_i hl
    simp only [Bool.and_eq_true, Bool.or_eq_true, beq_iff_eq] at hc
    refine .inr ⟨by omega, ?_⟩
    rcases hc with ⟨a1, a2⟩ | ⟨a1, a2⟩
    · exact .inl ⟨by omega, a2⟩
    · exact .inr ⟨by omega, a2⟩
end Go.Proofs.Ytfpcfolcdpdomaa
