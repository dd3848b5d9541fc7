/- Steps that lead from state to state and never meet: plain facts. -/
import Derived.Test.YtebcnfemkchfjaaSmall
namespace Go.Proofs.Ytebcnfemkchfjaa
set_option linter.unusedVariables false

theorem nodup_bound : ∀ (N : Nat) (l : List Nat), l.Nodup → (∀ x ∈ l, x < N) → l.length ≤ N := by
  intro N
  induction N with
  | zero =>
    intro l _ h
    cases l with
    | nil => simp
    | cons a t => have := h a (by simp); omega
  | succ N ih =>
    intro l hd h
    have h1 := ih (l.erase N) (hd.erase N) fun x hx => by
      have := (List.Nodup.mem_erase_iff hd).1 hx
      have := h x this.2
      omega
    by_cases hm : N ∈ l
    · have := List.length_erase_of_mem hm
      omega
    · rw [List.erase_of_not_mem hm] at h1
      omega

theorem pigeon (f : Nat → Nat) (N : Nat) (h : ∀ k, k ≤ N → f k < N) : ∃ i j, i < j ∧ j ≤ N ∧ f i = f j := by
  apply Classical.byContradiction
  intro hn
  have hd : ((List.range (N + 1)).map f).Nodup := by
    refine List.pairwise_map.2 ?_
    refine List.Pairwise.imp_of_mem ?_ List.pairwise_lt_range
    intro a b ha hb hab e
    have := List.mem_range.1 hb
    exact hn ⟨a, b, hab, by omega, e⟩
  have := nodup_bound N _ hd fun x hx => by
    obtain ⟨k, hk, rfl⟩ := List.mem_map.1 hx
    have := List.mem_range.1 hk
    exact h k (by omega)
  simp at this
  omega

/-- k steps on. -/
def iter {α : Type} (s : α → Option α) : Nat → α → Option α
  | 0, x => some x
  | k + 1, x => (iter s k x).bind s

theorem iter_add {α : Type} (s : α → Option α) (j : Nat) : ∀ (k : Nat) (x : α), iter s (j + k) x = (iter s j x).bind (iter s k) := by
  intro k
  induction k with
  | zero => intro x; cases h : iter s j x <;> simp [iter]
  | succ k ih =>
    intro x
    rw [← Nat.add_assoc, iter, ih x]
    cases h : iter s j x <;> simp [iter]

/-- The steps stay among the states of the kind V, and no two of them lead to one. -/
structure Steps {α : Type} (s : α → Option α) (V : α → Prop) (code : α → Nat) (N : Nat) : Prop where
  stay : ∀ x y, V x → s x = some y → V y
  inj : ∀ x x' y, V x → V x' → s x = some y → s x' = some y → x = x'
  code_lt : ∀ x, V x → code x < N
  code_inj : ∀ x y, V x → V y → code x = code y → x = y

theorem Steps.iter_stay {α : Type} {s : α → Option α} {V : α → Prop} {code : α → Nat} {N : Nat} (h : Steps s V code N) : ∀ k x y, V x → iter s k x = some y → V y := by
  intro k
  induction k with
  | zero => intro x y hx e; simp [iter] at e; rw [← e]; exact hx
  | succ k ih =>
    intro x y hx e
    simp only [iter] at e
    cases hz : iter s k x with
    | none => rw [hz] at e; simp at e
    | some z =>
      rw [hz] at e
      exact h.stay z y (ih x z hx hz) e

theorem iter_pred {α : Type} {s : α → Option α} {k : Nat} {x y : α} (e : iter s (k + 1) x = some y) : ∃ z, iter s k x = some z ∧ s z = some y := by
  simp only [iter] at e
  cases hz : iter s k x with
  | none => rw [hz] at e; simp at e
  | some z => rw [hz] at e; exact ⟨z, rfl, e⟩

theorem iter_lt {α : Type} {s : α → Option α} {k : Nat} {x y : α} (e : iter s k x = some y) : ∀ j, j ≤ k → ∃ z, iter s j x = some z := by
  intro j hj
  have : iter s (j + (k - j)) x = some y := by rw [show j + (k - j) = k by omega]; exact e
  rw [iter_add] at this
  cases hz : iter s j x with
  | none => rw [hz] at this; simp at this
  | some z => exact ⟨z, rfl⟩

/-- Where two ways meet they have met a step before. -/
theorem Steps.back {α : Type} {s : α → Option α} {V : α → Prop} {code : α → Nat} {N : Nat} (h : Steps s V code N) :
    ∀ i x x' y, V x → V x' → ∀ d, iter s i x = some y → iter s (i + d) x' = some y → iter s d x' = some x := by
  intro i
  induction i with
  | zero => intro x x' y hx hx' d e e'; simp [iter] at e; rw [Nat.zero_add] at e'; rw [e', ← e]
  | succ i ih =>
    intro x x' y hx hx' d e e'
    obtain ⟨z, hz, hzy⟩ := iter_pred e
    rw [show i + 1 + d = (i + d) + 1 by omega] at e'
    obtain ⟨z', hz', hzy'⟩ := iter_pred e'
    have := h.inj z z' y (h.iter_stay i x z hx hz) (h.iter_stay (i + d) x' z' hx' hz') hzy hzy'
    subst this
    exact ih x x' z hx hx' d hz hz'

/-- From each state the way ends, or comes back to it, within N steps. -/
theorem Steps.ends_or_returns {α : Type} {s : α → Option α} {V : α → Prop} {code : α → Nat} {N : Nat} (h : Steps s V code N) {x : α} (hx : V x) :
    (∃ k y, k < N ∧ iter s k x = some y ∧ s y = none) ∨ (∃ k, 0 < k ∧ k ≤ N ∧ iter s k x = some x) := by
  by_cases hall : ∃ y, iter s N x = some y
  · right
    obtain ⟨y, hy⟩ := hall
    have hdef := iter_lt hy
    have hV : ∀ j, j ≤ N → V ((iter s j x).getD x) := fun j hj => by
      obtain ⟨z, hz⟩ := hdef j hj
      rw [hz]; exact h.iter_stay j x z hx hz
    obtain ⟨i, j, hij, hjN, e⟩ := pigeon (fun j => code ((iter s j x).getD x)) N fun j hj => h.code_lt _ (hV j hj)
    have e2 := h.code_inj _ _ (hV i (by omega)) (hV j hjN) e
    obtain ⟨zi, hzi⟩ := hdef i (by omega)
    obtain ⟨zj, hzj⟩ := hdef j hjN
    rw [hzi, hzj] at e2
    simp only [Option.getD_some] at e2
    subst e2
    refine ⟨j - i, by omega, by omega, ?_⟩
    exact h.back i x x zi hx hx (j - i) hzi (by rw [show i + (j - i) = j by omega]; exact hzj)
  · left
    have : ∀ K, ¬ (∃ y, iter s K x = some y) → ∃ k y, k < K ∧ iter s k x = some y ∧ s y = none := by
      intro K
      induction K with
      | zero => intro hK; exact absurd ⟨x, rfl⟩ hK
      | succ K ih =>
        intro hK
        by_cases hK2 : ∃ y, iter s K x = some y
        · obtain ⟨y, hy⟩ := hK2
          refine ⟨K, y, by omega, hy, ?_⟩
          cases hs : s y with
          | none => rfl
          | some z => exact absurd ⟨z, by simp [iter, hy, hs]⟩ hK
        · obtain ⟨k, y, hk, h1, h2⟩ := ih hK2
          exact ⟨k, y, by omega, h1, h2⟩
    exact this N hall

/-- From a state to which no step leads the way ends. -/
theorem Steps.ends {α : Type} {s : α → Option α} {V : α → Prop} {code : α → Nat} {N : Nat} (h : Steps s V code N) {x : α} (hx : V x) (hno : ∀ z, V z → s z ≠ some x) :
    ∃ k y, k < N ∧ iter s k x = some y ∧ s y = none := by
  rcases h.ends_or_returns hx with h1 | ⟨k, hk, hkN, e⟩
  · exact h1
  · obtain ⟨z, hz, hzx⟩ := iter_pred (k := k - 1) (by rw [show k - 1 + 1 = k by omega]; exact e)
    exact absurd hzx (hno z (h.iter_stay _ x z hx hz))
end Go.Proofs.Ytebcnfemkchfjaa
