/- The rounds of a grid: plain facts. -/
import Derived.Test.YtebcnfemkchfjaaBetwL
namespace Go.Proofs.Ytebcnfemkchfjaa
set_option linter.unusedVariables false
set_option linter.unusedSimpArgs false
set_option linter.unusedSectionVars false

theorem cyc_next {α : Type} {s : α → Option α} {x : α} (h : Cyc s x) : ∃ y, s x = some y := by
  obtain ⟨k, hk, e⟩ := h
  match k, hk with
  | k + 1, _ =>
    rw [iter_succ'] at e
    cases hs : s x with
    | none => rw [hs] at e; cases e
    | some y => exact ⟨y, rfl⟩
theorem iter_mod {α : Type} {s : α → Option α} {x : α} {k : Nat} (h : iter s k x = some x) (j : Nat) : iter s j x = iter s (j % k) x := by
  have h2 := Cyc.pow h (j / k)
  have e : j = j / k * k + j % k := (Nat.div_add_mod' j k).symm
  have : iter s (j / k * k + j % k) x = iter s (j % k) x := by rw [iter_add, h2]; rfl
  rw [← e] at this
  exact this
theorem least_pos (P : Nat → Prop) : ∀ k, 0 < k → P k → ∃ k', 0 < k' ∧ k' ≤ k ∧ P k' ∧ ∀ j, 0 < j → j < k' → ¬ P j := by
  intro k
  induction k using Nat.strongRecOn with
  | _ k ih =>
    intro hk hp
    by_cases h : ∃ j, 0 < j ∧ j < k ∧ P j
    · obtain ⟨j, hj, hlt, hpj⟩ := h
      obtain ⟨k', h1, h2, h3, h4⟩ := ih j hlt hj hpj
      exact ⟨k', h1, by omega, h3, h4⟩
    · exact ⟨k, hk, Nat.le_refl _, hp, fun j hj hlt hpj => h ⟨j, hj, hlt, hpj⟩⟩

open Classical in
/-- How many steps lead back. -/
noncomputable def Gr.per (g : Gr) (x : Stt) : Nat := if h : ∃ k, 0 < k ∧ iter g.nx k x = some x ∧ ∀ j, 0 < j → j < k → iter g.nx j x ≠ some x then h.choose else 0
/-- The states of the round of a state, in order. -/
noncomputable def Gr.roundOf (g : Gr) (x : Stt) : List Stt := g.wayTo x (g.per x)
def codeS (x : Stt) : Nat := 4 * x.1 + x.2
def decS (c : Nat) : Stt := (c / 4, c % 4)
theorem dec_code {x : Stt} (h : x.2 < 4) : decS (codeS x) = x := by
  unfold decS codeS
  refine Prod.ext ?_ ?_
  · show (4 * x.1 + x.2) / 4 = x.1
    omega
  · show (4 * x.1 + x.2) % 4 = x.2
    omega
theorem code_dec (c : Nat) : codeS (decS c) = c := by
  unfold decS codeS
  show 4 * (c / 4) + c % 4 = c
  omega
/-- The first state of its round. -/
def Gr.isRep (g : Gr) (x : Stt) : Prop := Cyc g.nx x ∧ ∀ c, c < codeS x → Cyc g.nx (decS c) → ¬ Same g.nx g.rev (decS c) x
open Classical in
/-- The first states of the rounds among the first k states. -/
noncomputable def Gr.repsTo (g : Gr) (k : Nat) : List Stt := ((List.range k).map decS).filter fun x => decide (g.isRep x)
/-- On a beam, or on the round of one of those. -/
def Gr.Marked (g : Gr) (k : Nat) (x : Stt) : Prop := (∃ p, p < g.ports ∧ x ∈ g.wayOf p) ∨ ∃ r ∈ g.repsTo k, Same g.nx g.rev r x

section
variable {g : Gr} (hg : g.ok)
include hg
theorem Gr.end_not_cyc {x y : Stt} (o : On g.nx x y) (e : g.nx y = none) : ¬ Cyc g.nx x := by
  intro c
  obtain ⟨z, hz⟩ := cyc_next (c.on o).2
  rw [e] at hz
  cases hz
theorem Gr.beam_not_cyc {p : Nat} (hp : p < g.ports) {x : Stt} (h : x ∈ g.wayOf p) : ¬ Cyc g.nx x := by
  obtain ⟨j, hj⟩ := (Gr.mem_way hg hp).1 h
  obtain ⟨K, y, hB⟩ := Gr.beam_of hg hp
  intro c
  have h1 := (c.on (On.refl _ _)).2
  by_cases hle : j ≤ K
  · have h2 := hB.way
    rw [show K = j + (K - j) by omega, iter_add, hj] at h2
    exact Gr.end_not_cyc hg ⟨_, h2⟩ hB.last c
  · obtain ⟨z, hz⟩ := iter_lt hj (K + 1) (by omega)
    obtain ⟨z', hz', hzz⟩ := iter_pred hz
    rw [hB.way] at hz'
    cases hz'
    rw [hB.last] at hzz
    cases hzz
theorem Gr.free_cyc {x : Stt} (hx : g.val x) (h : ∀ p, p < g.ports → x ∉ g.wayOf p) : Cyc g.nx x := by
  rcases (Gr.steps hg).ends_or_returns hx with ⟨k, y, _, e, hy⟩ | ⟨k, hk, _, e⟩
  · exfalso
    have hyv := (Gr.steps hg).iter_stay k x y hx e
    obtain ⟨h1, h2⟩ := Gr.ent_out hg hyv hy
    have h3 := (Gr.rvs hg).iter_back k x y hx e
    rw [← h2] at h3
    have h4 : g.rev x ∈ g.wayOf (g.out y) := (Gr.mem_way hg h1).2 ⟨k, h3⟩
    have h5 := Gr.way_rev1 hg h1 h4
    rw [Gr.rev_rev hg hx] at h5
    exact h _ (Gr.endOf_pair hg h1).1 h5
  · exact ⟨k, hk, e⟩
theorem Gr.per_spec {x : Stt} (hx : g.val x) (c : Cyc g.nx x) : 0 < g.per x ∧ g.per x ≤ 100 ∧ iter g.nx (g.per x) x = some x ∧ ∀ j, 0 < j → j < g.per x → iter g.nx j x ≠ some x := by
  obtain ⟨k, hk, hkN, e⟩ : ∃ k, 0 < k ∧ k ≤ 100 ∧ iter g.nx k x = some x := by
    have := Gr.size_le hg
    rcases (Gr.steps hg).ends_or_returns hx with ⟨k, y, _, e, hy⟩ | ⟨k, hk, hkN, e⟩
    · exact absurd c (Gr.end_not_cyc hg ⟨k, e⟩ hy)
    · exact ⟨k, hk, by omega, e⟩
  obtain ⟨k', h1, h2, h3, h4⟩ := least_pos (fun k => iter g.nx k x = some x) k hk e
  have hex : ∃ k, 0 < k ∧ iter g.nx k x = some x ∧ ∀ j, 0 < j → j < k → iter g.nx j x ≠ some x := ⟨k', h1, h3, h4⟩
  have hs := hex.choose_spec
  have hp : g.per x = hex.choose := by unfold Gr.per; rw [dif_pos hex]
  rw [hp]
  refine ⟨hs.1, ?_, hs.2.1, hs.2.2⟩
  apply Nat.le_of_not_lt
  intro hlt
  exact hs.2.2 k' h1 (by omega) h3
theorem Gr.round_length (x : Stt) : (g.roundOf x).length = g.per x := Gr.wayTo_length _ _ _
theorem Gr.round_get {x : Stt} (hx : g.val x) (c : Cyc g.nx x) {i : Nat} (hi : i < g.per x) : ∃ y, iter g.nx i x = some y ∧ (g.roundOf x)[i]? = some y := by
  obtain ⟨_, _, e, _⟩ := Gr.per_spec hg hx c
  obtain ⟨z, hz⟩ := iter_lt e i (by omega)
  refine ⟨z, hz, ?_⟩
  simp [Gr.roundOf, Gr.wayTo, hi, hz]
theorem Gr.mem_round {x y : Stt} (hx : g.val x) (c : Cyc g.nx x) : y ∈ g.roundOf x ↔ On g.nx x y := by
  obtain ⟨h1, _, h2, h3⟩ := Gr.per_spec hg hx c
  constructor
  · intro h
    obtain ⟨i, hi, rfl⟩ := List.getElem_of_mem h
    rw [Gr.round_length hg] at hi
    obtain ⟨y, hy, hy2⟩ := Gr.round_get hg hx c hi
    refine ⟨i, ?_⟩
    rw [hy]
    rw [List.getElem?_eq_getElem (by rw [Gr.round_length hg]; exact hi)] at hy2
    exact hy2.symm
  · rintro ⟨k, e⟩
    rw [iter_mod h2 k] at e
    have hlt := Nat.mod_lt k h1
    obtain ⟨z, hz, hz2⟩ := Gr.round_get hg hx c hlt
    rw [e] at hz
    cases hz
    exact List.mem_of_getElem? hz2
theorem Gr.round_nodup {x : Stt} (hx : g.val x) (c : Cyc g.nx x) : (g.roundOf x).Nodup := by
  obtain ⟨h1, _, h2, h3⟩ := Gr.per_spec hg hx c
  rw [List.nodup_iff_pairwise_ne, List.pairwise_iff_getElem]
  intro i j hi hj hij e
  have hi2 := hi
  have hj2 := hj
  rw [Gr.round_length hg] at hi2 hj2
  obtain ⟨y, hy, hy2⟩ := Gr.round_get hg hx c hi2
  obtain ⟨z, hz, hz2⟩ := Gr.round_get hg hx c hj2
  rw [List.getElem?_eq_getElem hi] at hy2
  rw [List.getElem?_eq_getElem hj] at hz2
  have e1 := Option.some.inj hy2
  have e2 := Option.some.inj hz2
  rw [e, e2] at e1
  subst e1
  have h4 := (Gr.steps hg).back i x x z hx hx (j - i) hy (by rw [show i + (j - i) = j by omega]; exact hz)
  exact h3 (j - i) (by omega) (by omega) h4
theorem Gr.dec_val {c : Nat} (h : c < 4 * (g.n * g.m)) : g.val (decS c) := ⟨by show c / 4 < _; omega, by show c % 4 < 4; omega⟩
theorem Gr.code_lt {x : Stt} (h : g.val x) : codeS x < 4 * (g.n * g.m) := by
  have h1 := h.1
  have h2 := h.2
  unfold codeS
  omega
theorem Gr.mem_reps {k : Nat} {x : Stt} : x ∈ g.repsTo k ↔ g.isRep x ∧ ∃ c, c < k ∧ decS c = x := by
  unfold Gr.repsTo
  rw [List.mem_filter, List.mem_map]
  simp only [List.mem_range, decide_eq_true_iff]
  exact And.comm
/-- Each round has a first state. -/
theorem Gr.rep_of : ∀ c, c < 4 * (g.n * g.m) → Cyc g.nx (decS c) → ∃ c', c' ≤ c ∧ g.isRep (decS c') ∧ Same g.nx g.rev (decS c') (decS c) := by
  intro c
  induction c using Nat.strongRecOn with
  | _ c ih =>
    intro hc hcy
    by_cases h : ∃ c', c' < c ∧ Cyc g.nx (decS c') ∧ Same g.nx g.rev (decS c') (decS c)
    · obtain ⟨c', hlt, hcy', hs⟩ := h
      obtain ⟨c2, h1, h2, h3⟩ := ih c' hlt (by omega) hcy'
      have hv2 := Gr.dec_val hg (c := c2) (by omega)
      have hv' := Gr.dec_val hg (c := c') (by omega)
      have hv := Gr.dec_val hg hc
      exact ⟨c2, by omega, h2, (Gr.rvs hg).eqv.trans _ _ _ ⟨hv2, h2.1⟩ ⟨hv', hcy'⟩ ⟨hv, hcy⟩ h3 hs⟩
    · refine ⟨c, Nat.le_refl _, ⟨hcy, fun c' hlt hcy' hs => ?_⟩, .inl (On.refl _ _)⟩
      rw [code_dec] at hlt
      exact h ⟨c', hlt, hcy', hs⟩
theorem Gr.marked_lt {k c : Nat} (hk : k ≤ 4 * (g.n * g.m)) (hc : c < k) : g.Marked k (decS c) := by
  by_cases h : ∃ p, p < g.ports ∧ decS c ∈ g.wayOf p
  · exact .inl h
  · have hv := Gr.dec_val hg (c := c) (by omega)
    have hcy := Gr.free_cyc hg hv fun p hp hm => h ⟨p, hp, hm⟩
    obtain ⟨c', h1, h2, h3⟩ := Gr.rep_of hg c (by omega) hcy
    exact .inr ⟨decS c', (Gr.mem_reps hg).2 ⟨h2, c', by omega, rfl⟩, h3⟩
theorem Gr.not_marked {k : Nat} (hk : k < 4 * (g.n * g.m)) (h : ¬ g.Marked k (decS k)) : Cyc g.nx (decS k) ∧ g.repsTo (k + 1) = g.repsTo k ++ [decS k] := by
  have hv := Gr.dec_val hg hk
  have hcy := Gr.free_cyc hg hv fun p hp hm => h (.inl ⟨p, hp, hm⟩)
  refine ⟨hcy, ?_⟩
  have hr : g.isRep (decS k) := by
    refine ⟨hcy, fun c hc hcc hs => ?_⟩
    rw [code_dec] at hc
    obtain ⟨c', h1, h2, h3⟩ := Gr.rep_of hg c (by omega) hcc
    exact h (.inr ⟨decS c', (Gr.mem_reps hg).2 ⟨h2, c', by omega, rfl⟩, (Gr.rvs hg).eqv.trans _ _ _ ⟨Gr.dec_val hg (by omega), h2.1⟩ ⟨Gr.dec_val hg (by omega), hcc⟩ ⟨hv, hcy⟩ h3 hs⟩)
  unfold Gr.repsTo
  rw [List.range_succ, List.map_append, List.filter_append]
  simp [hr]
theorem Gr.is_marked {k : Nat} (hk : k < 4 * (g.n * g.m)) (h : g.Marked k (decS k)) : g.repsTo (k + 1) = g.repsTo k := by
  have hr : ¬ g.isRep (decS k) := by
    rintro ⟨hcy, hn⟩
    rcases h with ⟨p, hp, hm⟩ | ⟨r, hr, hs⟩
    · exact Gr.beam_not_cyc hg hp hm hcy
    · obtain ⟨h1, c, hc, rfl⟩ := (Gr.mem_reps hg).1 hr
      exact hn c (by rw [code_dec]; exact hc) h1.1 hs
  unfold Gr.repsTo
  rw [List.range_succ, List.map_append, List.filter_append]
  simp [hr]
theorem Gr.reps_trv : Trv (fun x => g.val x ∧ Cyc g.nx x) (Same g.nx g.rev) (g.repsTo (4 * (g.n * g.m))) where
  all := fun x hx => by
    obtain ⟨h1, c, hc, rfl⟩ := (Gr.mem_reps hg).1 hx
    exact ⟨Gr.dec_val hg hc, h1.1⟩
  apart := by
    have key : ∀ k, k ≤ 4 * (g.n * g.m) → (g.repsTo k).Pairwise fun x y => ¬ Same g.nx g.rev x y := by
      intro k
      induction k with
      | zero => intro _; exact List.Pairwise.nil
      | succ k ih =>
        intro hk
        by_cases h : g.Marked k (decS k)
        · rw [Gr.is_marked hg (by omega) h]
          exact ih (by omega)
        · obtain ⟨hcy, e⟩ := Gr.not_marked hg (by omega) h
          rw [e, List.pairwise_append]
          refine ⟨ih (by omega), List.pairwise_singleton _ _, fun x hx y hy hs => ?_⟩
          rw [List.mem_singleton.1 hy] at hs
          exact h (.inr ⟨x, hx, hs⟩)
    exact key _ (Nat.le_refl _)
  some := fun x hx => by
    obtain ⟨hv, hcy⟩ := hx
    have hd := dec_code hv.2
    obtain ⟨c', h1, h2, h3⟩ := Gr.rep_of hg (codeS x) (Gr.code_lt hg hv) (by rw [hd]; exact hcy)
    rw [hd] at h3
    have hlt := Gr.code_lt hg hv
    exact ⟨decS c', (Gr.mem_reps hg).2 ⟨h2, c', by omega, rfl⟩, (Gr.rvs hg).eqv.symm _ _ ⟨Gr.dec_val hg (by omega), h2.1⟩ ⟨hv, hcy⟩ h3⟩
theorem Gr.reps_num : Rounds g.nx g.rev g.val (g.repsTo (4 * (g.n * g.m))).length := ⟨_, Gr.reps_trv hg, rfl⟩
theorem Gr.same_iff {x y : Stt} (hx : g.val x) (c : Cyc g.nx x) : Same g.nx g.rev x y ↔ y ∈ g.roundOf x ∨ g.rev y ∈ g.roundOf x := by
  rw [Gr.mem_round hg hx c, Gr.mem_round hg hx c]
  exact Iff.rfl
end
end Go.Proofs.Ytebcnfemkchfjaa
