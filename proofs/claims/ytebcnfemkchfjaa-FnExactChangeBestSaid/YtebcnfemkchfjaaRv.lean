/- Steps that can be gone backwards, and how many rounds they make: plain facts. -/
import Derived.Test.YtebcnfemkchfjaaOrbit
import Derived.Test.YtebcnfemkchfjaaCls
namespace Go.Proofs.Ytebcnfemkchfjaa
set_option linter.unusedVariables false
set_option linter.unusedSimpArgs false
set_option linter.unusedSectionVars false

/-- y lies on the way from x. -/
def On {α : Type} (s : α → Option α) (x y : α) : Prop := ∃ k, iter s k x = some y
/-- The way from x comes back to x. -/
def Cyc {α : Type} (s : α → Option α) (x : α) : Prop := ∃ k, 0 < k ∧ iter s k x = some x
/-- x and y lie on one way, gone forwards or backwards. -/
def Same {α : Type} (s : α → Option α) (r : α → α) (x y : α) : Prop := On s x y ∨ On s x (r y)
/-- Each step is a step backwards from the reversed state. -/
structure Rv {α : Type} (s : α → Option α) (r : α → α) (V : α → Prop) (code : α → Nat) (N : Nat) : Prop where
  stay : ∀ x y, V x → s x = some y → V y
  rv : ∀ x, V x → V (r x)
  rr : ∀ x, V x → r (r x) = x
  back : ∀ x y, V x → s x = some y → s (r y) = some (r x)
  code_lt : ∀ x, V x → code x < N
  code_inj : ∀ x y, V x → V y → code x = code y → x = y

theorem On.refl {α : Type} (s : α → Option α) (x : α) : On s x x := ⟨0, rfl⟩
theorem On.trans {α : Type} {s : α → Option α} {x y z : α} (h : On s x y) (k : On s y z) : On s x z := by
  obtain ⟨i, hi⟩ := h
  obtain ⟨j, hj⟩ := k
  exact ⟨i + j, by rw [iter_add, hi]; exact hj⟩
theorem On.step {α : Type} {s : α → Option α} {x y : α} (h : s x = some y) : On s x y := ⟨1, by simp [iter, h]⟩
theorem iter_succ' {α : Type} (s : α → Option α) (k : Nat) (x : α) : iter s (k + 1) x = (s x).bind (iter s k) := by
  have := iter_add s 1 k x
  rw [Nat.add_comm] at this
  rw [this]
  rfl
theorem Cyc.pow {α : Type} {s : α → Option α} {k : Nat} {x : α} (h : iter s k x = some x) : ∀ j, iter s (j * k) x = some x := by
  intro j
  induction j with
  | zero => simp [iter]
  | succ j ih => rw [Nat.succ_mul, iter_add, ih]; exact h
theorem Cyc.on {α : Type} {s : α → Option α} {x y : α} (h : Cyc s x) (o : On s x y) : On s y x ∧ Cyc s y := by
  obtain ⟨k, hk, e⟩ := h
  obtain ⟨j, hj⟩ := o
  have hle : j ≤ j * k := Nat.le_mul_of_pos_right j hk
  have e2 := Cyc.pow e j
  rw [show j * k = j + (j * k - j) by omega, iter_add, hj] at e2
  have e3 : iter s (j * k - j) y = some x := e2
  refine ⟨⟨_, e3⟩, ?_⟩
  by_cases h0 : j = 0
  · subst h0
    simp [iter] at hj
    subst hj
    exact ⟨k, hk, e⟩
  · refine ⟨(j * k - j) + j, by omega, ?_⟩
    rw [iter_add, e3]
    exact hj

section
variable {α : Type} {s : α → Option α} {r : α → α} {V : α → Prop} {code : α → Nat} {N : Nat} (h : Rv s r V code N)
include h
theorem Rv.steps : Steps s V code N where
  stay := h.stay
  inj := fun x x' y hx hx' e e' => by
    have h1 := h.back x y hx e
    rw [h.back x' y hx' e'] at h1
    rw [← h.rr x hx, ← h.rr x' hx', Option.some.inj h1]
  code_lt := h.code_lt
  code_inj := h.code_inj
theorem Rv.iter_back : ∀ k x y, V x → iter s k x = some y → iter s k (r y) = some (r x) := by
  intro k
  induction k with
  | zero => intro x y hx e; simp [iter] at e; subst e; rfl
  | succ k ih =>
    intro x y hx e
    obtain ⟨z, hz, hzy⟩ := iter_pred e
    have hV := h.steps.iter_stay k x z hx hz
    rw [iter_succ', h.back z y hV hzy]
    exact ih x z hx hz
theorem Rv.on_val {x y : α} (hx : V x) (o : On s x y) : V y := by
  obtain ⟨k, e⟩ := o
  exact h.steps.iter_stay k x y hx e
theorem Rv.on_back {x y : α} (hx : V x) (o : On s x y) : On s (r y) (r x) := by
  obtain ⟨k, e⟩ := o
  exact ⟨k, h.iter_back k x y hx e⟩
theorem Rv.cyc_r {x : α} (hx : V x) (c : Cyc s x) : Cyc s (r x) := by
  obtain ⟨k, hk, e⟩ := c
  exact ⟨k, hk, h.iter_back k x x hx e⟩
theorem Rv.eqv : Eqv (fun x => V x ∧ Cyc s x) (Same s r) where
  refl := fun x _ => .inl (On.refl _ _)
  symm := by
    rintro x y ⟨hx, cx⟩ ⟨hy, cy⟩ (o | o)
    · exact .inl (cx.on o).1
    · refine .inr ?_
      have h1 := h.on_back (h.rv y hy) (cx.on o).1
      rw [h.rr y hy] at h1
      exact ((h.cyc_r hx cx).on h1).1
  trans := by
    rintro x y z ⟨hx, cx⟩ ⟨hy, cy⟩ ⟨hz, cz⟩ (o | o) (p | p)
    · exact .inl (o.trans p)
    · exact .inr (o.trans p)
    · exact .inr (o.trans ((h.cyc_r hz cz).on (h.on_back hy p)).1)
    · refine .inl (o.trans ?_)
      have h1 := h.on_back hy p
      rw [h.rr z hz] at h1
      exact (cz.on h1).1
theorem Rv.same_cyc {x y : α} (hx : V x) (hy : V y) (c : Cyc s x) (o : Same s r x y) : Cyc s y := by
  rcases o with o | o
  · exact (c.on o).2
  · have := h.cyc_r (h.rv y hy) (c.on o).2
    rwa [h.rr y hy] at this
/-- A way never turns back upon itself. -/
theorem Rv.no_turn (rne : ∀ x, V x → r x ≠ x) (nrev : ∀ x, V x → s x ≠ some (r x)) : ∀ k x, V x → iter s k x ≠ some (r x) := by
  intro k
  induction k using Nat.strongRecOn with
  | _ k ih =>
    intro x hx e
    match k, e with
    | 0, e => simp [iter] at e; exact rne x hx e.symm
    | 1, e => simp [iter] at e; exact nrev x hx e
    | k + 2, e =>
      obtain ⟨w, hw, hwx⟩ := iter_pred e
      rw [iter_succ'] at hw
      cases hz : s x with
      | none => rw [hz] at hw; simp at hw
      | some z =>
        rw [hz] at hw
        have hw2 : iter s k z = some w := hw
        have hzV := h.stay x z hx hz
        have hwV := h.steps.iter_stay k z w hzV hw2
        have h1 := h.back w (r x) hwV hwx
        rw [h.rr x hx, hz] at h1
        have h2 : w = r z := by rw [Option.some.inj h1, h.rr w hwV]
        rw [h2] at hw2
        exact ih k (by omega) z hzV hw2
end

/-- The number of rounds. -/
def Rounds {α : Type} (s : α → Option α) (r : α → α) (V : α → Prop) (n : Nat) : Prop := Num (fun x => V x ∧ Cyc s x) (Same s r) n
/-- y is the first state of the kind T on the way from x, behind x itself. -/
def Fst {α : Type} (s : α → Option α) (T : α → Prop) (x y : α) : Prop := ∃ k, 0 < k ∧ iter s k x = some y ∧ T y ∧ ∀ j z, 0 < j → j < k → iter s j x = some z → ¬ T z

/-- A system of the states of one kind alone: its steps lead from such a state to the next one. -/
structure Contr {α τ : Type} (s : α → Option α) (r : α → α) (V : α → Prop) (T : α → Prop) (s' : τ → Option τ) (r' : τ → τ) (V' : τ → Prop) (emb : τ → α) : Prop where
  val : ∀ x, V' x → V (emb x) ∧ T (emb x)
  inj : ∀ x y, V' x → V' y → emb x = emb y → x = y
  surj : ∀ y, V y → T y → Cyc s y → ∃ x, V' x ∧ emb x = y
  nxt : ∀ x y, V' x → s' x = some y → Fst s T (emb x) (emb y)
  stop : ∀ x, V' x → s' x = none → ¬ Cyc s (emb x)
  rev : ∀ x, V' x → Cyc s (emb x) → On s (r (emb x)) (emb (r' x))

section
variable {α τ : Type} {s : α → Option α} {r : α → α} {V : α → Prop} {code : α → Nat} {N : Nat} (h : Rv s r V code N)
  {s' : τ → Option τ} {r' : τ → τ} {V' : τ → Prop} {code' : τ → Nat} {N' : Nat} (h' : Rv s' r' V' code' N') {T : α → Prop} {emb : τ → α} (hc : Contr s r V T s' r' V' emb)
include h h' hc
theorem Contr.on : ∀ k x y, V' x → iter s' k x = some y → ∃ K, k ≤ K ∧ iter s K (emb x) = some (emb y) := by
  intro k
  induction k with
  | zero => intro x y hx e; simp [iter] at e; subst e; exact ⟨0, Nat.le_refl _, rfl⟩
  | succ k ih =>
    intro x y hx e
    obtain ⟨z, hz, hzy⟩ := iter_pred e
    obtain ⟨K, hK, e1⟩ := ih x z hx hz
    obtain ⟨j, hj, e2, _⟩ := hc.nxt z y (h'.steps.iter_stay k x z hx hz) hzy
    exact ⟨K + j, by omega, by rw [iter_add, e1]; exact e2⟩
theorem Contr.cyc {x : τ} (hx : V' x) : Cyc s' x ↔ Cyc s (emb x) := by
  constructor
  · rintro ⟨k, hk, e⟩
    obtain ⟨K, hK, e1⟩ := Contr.on h h' hc k x x hx e
    exact ⟨K, by omega, e1⟩
  · intro c
    rcases h'.steps.ends_or_returns hx with ⟨k, y, _, e, hy⟩ | ⟨k, hk, _, e⟩
    · obtain ⟨K, _, e1⟩ := Contr.on h h' hc k x y hx e
      exact absurd (c.on ⟨K, e1⟩).2 (hc.stop y (h'.steps.iter_stay k x y hx e) hy)
    · exact ⟨k, hk, e⟩
theorem Contr.on_iff {x y : τ} (hx : V' x) (hy : V' y) (c : Cyc s (emb x)) : On s' x y ↔ On s (emb x) (emb y) := by
  constructor
  · rintro ⟨k, e⟩
    obtain ⟨K, _, e1⟩ := Contr.on h h' hc k x y hx e
    exact ⟨K, e1⟩
  · rintro ⟨K, e⟩
    induction K using Nat.strongRecOn generalizing x with
    | _ K ih =>
      by_cases h0 : K = 0
      · subst h0
        simp [iter] at e
        rw [hc.inj x y hx hy e]
        exact On.refl _ _
      · cases hs : s' x with
        | none => exact absurd c (hc.stop x hx hs)
        | some z =>
          obtain ⟨k, hk, e1, _, hf⟩ := hc.nxt x z hx hs
          have hle : k ≤ K := by
            apply Nat.le_of_not_lt
            intro hlt
            exact hf K (emb y) (by omega) hlt e (hc.val y hy).2
          have e2 := e
          rw [show K = k + (K - k) by omega, iter_add, e1] at e2
          have hz := h'.stay x z hx hs
          exact (On.step hs).trans (ih (K - k) (by omega) hz (c.on ⟨k, e1⟩).2 e2)
theorem Contr.same {x y : τ} (hx : V' x) (hy : V' y) (cx : Cyc s (emb x)) (cy : Cyc s (emb y)) : Same s' r' x y ↔ Same s r (emb x) (emb y) := by
  have hry := h'.rv y hy
  have h1 := hc.rev y hy cy
  have h2 := ((h.cyc_r (hc.val y hy).1 cy).on h1).1
  unfold Same
  rw [Contr.on_iff h h' hc hx hy cx, Contr.on_iff h h' hc hx hry cx]
  constructor
  · rintro (o | o)
    · exact .inl o
    · exact .inr (o.trans h2)
  · rintro (o | o)
    · exact .inl o
    · exact .inr (o.trans h1)
/-- The rounds that meet the kind T are as many as those of the system of T alone. -/
theorem Contr.rounds {n n' : Nat} (hn : Num (fun x => (V x ∧ Cyc s x) ∧ ∃ y, V y ∧ T y ∧ Same s r x y) (Same s r) n) (hn' : Rounds s' r' V' n') : n = n' := by
  have hE := h.eqv
  have hE2 : Eqv (fun x => (V x ∧ Cyc s x) ∧ ∃ y, V y ∧ T y ∧ Same s r x y) (Same s r) :=
    ⟨fun x hx => hE.refl x hx.1, fun x y hx hy => hE.symm x y hx.1 hy.1, fun x y z hx hy hz => hE.trans x y z hx.1 hy.1 hz.1⟩
  have ok : ∀ y, V' y ∧ Cyc s' y → V (emb y) ∧ Cyc s (emb y) := fun y hy => ⟨(hc.val y hy.1).1, (Contr.cyc h h' hc hy.1).1 hy.2⟩
  refine Num.eq hE2 h'.eqv hn hn' (fun x y => Same s r x (emb y)) ?_ ?_ ?_
  · rintro x ⟨⟨hx, cx⟩, y, hy, ty, o⟩
    have cy := h.same_cyc hx hy cx o
    obtain ⟨x', hx', rfl⟩ := hc.surj y hy ty cy
    exact ⟨x', ⟨hx', (Contr.cyc h h' hc hx').2 cy⟩, o⟩
  · intro y hy
    exact ⟨emb y, ⟨ok y hy, emb y, (ok y hy).1, (hc.val y hy.1).2, .inl (On.refl _ _)⟩, .inl (On.refl _ _)⟩
  · intro x x' y y' hx hx' hy hy' o o'
    rw [Contr.same h h' hc hy.1 hy'.1 (ok y hy).2 (ok y' hy').2]
    constructor
    · intro p
      exact hE.trans x (emb y) x' hx.1 (ok y hy) hx'.1 o (hE.trans _ _ _ (ok y hy) (ok y' hy') hx'.1 p (hE.symm _ _ hx'.1 (ok y' hy') o'))
    · intro p
      exact hE.trans _ _ _ (ok y hy) hx.1 (ok y' hy') (hE.symm _ _ hx.1 (ok y hy) o) (hE.trans _ _ _ hx.1 hx'.1 (ok y' hy') p o')
end
theorem Rv.meets {α : Type} {s : α → Option α} {r : α → α} {V : α → Prop} {code : α → Nat} {N : Nat} (h : Rv s r V code N) (T : α → Prop) :
    ∀ x y, (V x ∧ Cyc s x) → (V y ∧ Cyc s y) → Same s r x y → ((∃ z, V z ∧ T z ∧ Same s r x z) ↔ ∃ z, V z ∧ T z ∧ Same s r y z) := by
  intro x y hx hy o
  constructor
  · rintro ⟨z, hz, tz, p⟩
    exact ⟨z, hz, tz, h.eqv.trans y x z hy hx ⟨hz, h.same_cyc hx.1 hz hx.2 p⟩ (h.eqv.symm x y hx hy o) p⟩
  · rintro ⟨z, hz, tz, p⟩
    exact ⟨z, hz, tz, h.eqv.trans x y z hx hy ⟨hz, h.same_cyc hy.1 hz hy.2 p⟩ o p⟩
end Go.Proofs.Ytebcnfemkchfjaa
