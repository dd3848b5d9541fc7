/- Pairings that are glued: where ways end, how many rounds there are: plain facts. -/
import Derived.Test.YtoodfgfbppkbmaaRoundL
namespace Go.Proofs.Ytoodfgfbppkbmaa
set_option linter.unusedVariables false
set_option linter.unusedSimpArgs false
set_option linter.unusedSectionVars false

open Classical in
/-- How many steps lead back. -/
noncomputable def perS {α : Type} (s : α → Option α) (x : α) : Nat := if h : ∃ k, 0 < k ∧ iter s k x = some x ∧ ∀ j, 0 < j → j < k → iter s j x ≠ some x then h.choose else 0
theorem perS_spec {α : Type} {s : α → Option α} {x : α} (c : Cyc s x) : 0 < perS s x ∧ iter s (perS s x) x = some x ∧ ∀ j, 0 < j → j < perS s x → iter s j x ≠ some x := by
  obtain ⟨k, hk, e⟩ := c
  obtain ⟨k', h1, h2, h3, h4⟩ := least_pos (fun k => iter s k x = some x) k hk e
  have hx : ∃ k, 0 < k ∧ iter s k x = some x ∧ ∀ j, 0 < j → j < k → iter s j x ≠ some x := ⟨k', h1, h3, h4⟩
  have hs := hx.choose_spec
  have hp : perS s x = hx.choose := by unfold perS; rw [dif_pos hx]
  rw [hp]
  exact hs
theorem perS_on {α : Type} {s : α → Option α} {x y : α} (c : Cyc s x) : On s x y ↔ ∃ t, t < perS s x ∧ iter s t x = some y := by
  obtain ⟨h1, h2, h3⟩ := perS_spec c
  constructor
  · rintro ⟨k, e⟩
    exact ⟨k % perS s x, Nat.mod_lt _ h1, by rw [← iter_mod h2 k]; exact e⟩
  · rintro ⟨t, _, e⟩
    exact ⟨t, e⟩
theorem perS_def {α : Type} {s : α → Option α} {x : α} (c : Cyc s x) {t : Nat} (ht : t ≤ perS s x) : ∃ y, iter s t x = some y := iter_lt (perS_spec c).2.1 t ht
section
variable {α : Type} {s : α → Option α} {r : α → α} {V : α → Prop} {code : α → Nat} {N : Nat} (h : Rv s r V code N)
include h
theorem Rv.per_le {x : α} (hx : V x) (c : Cyc s x) : perS s x ≤ N := by
  rcases h.steps.ends_or_returns hx with ⟨k, y, _, e, hy⟩ | ⟨k, h1, h2, e⟩
  · obtain ⟨z, hz⟩ := cyc_next (c.on ⟨k, e⟩).2
    rw [hy] at hz
    cases hz
  · apply Nat.le_of_not_lt
    intro hlt
    exact (perS_spec c).2.2 k h1 (by omega) e
/-- Before it is back, a round meets no state twice. -/
theorem Rv.per_new {x : α} (hx : V x) (c : Cyc s x) {u t : Nat} (hut : u < t) (ht : t < perS s x) {y : α} (e1 : iter s u x = some y) (e2 : iter s t x = some y) : False := by
  have := h.steps.back u x x y hx hx (t - u) e1 (by rw [show u + (t - u) = t by omega]; exact e2)
  exact (perS_spec c).2.2 (t - u) (by omega) (by omega) this
theorem Rv.cyc_r' {x : α} (hx : V x) : Cyc s (r x) ↔ Cyc s x := by
  constructor
  · intro c
    have := h.cyc_r (h.rv x hx) c
    rwa [h.rr x hx] at this
  · exact h.cyc_r hx
end

/-- What the rounds of the first k states of a list have met. -/
def SeenL {α : Type} (s : α → Option α) (r : α → α) (L : Nat → α) (k : Nat) (x : α) : Prop := ∃ e, e < k ∧ Cyc s (L e) ∧ Same s r (L e) x
theorem SeenL.zero {α : Type} {s : α → Option α} {r : α → α} {L : Nat → α} {x : α} : ¬ SeenL s r L 0 x := by rintro ⟨e, he, _⟩; omega
section
variable {α : Type} {s : α → Option α} {r : α → α} {V : α → Prop} {code : α → Nat} {N : Nat} (h : Rv s r V code N) {L : Nat → α}
include h
theorem SeenL.cyc {k : Nat} {x : α} (hL : ∀ e, e < k → V (L e)) (hx : V x) (hs : SeenL s r L k x) : Cyc s x := by
  obtain ⟨e, he, c, o⟩ := hs
  exact h.same_cyc (hL e he) hx c o
theorem SeenL.same {k : Nat} {x y : α} (hL : ∀ e, e < k → V (L e)) (hx : V x) (hy : V y) (hs : SeenL s r L k x) (o : Same s r x y) : SeenL s r L k y := by
  obtain ⟨e, he, c, p⟩ := hs
  have cx := h.same_cyc (hL e he) hx c p
  have cy := h.same_cyc hx hy cx o
  exact ⟨e, he, c, h.eqv.trans _ _ _ ⟨hL e he, c⟩ ⟨hx, cx⟩ ⟨hy, cy⟩ p o⟩
theorem SeenL.old {k : Nat} (hL : ∀ e, e ≤ k → V (L e)) (hs : Cyc s (L k) → SeenL s r L k (L k)) {x : α} (hx : V x) : SeenL s r L (k + 1) x ↔ SeenL s r L k x := by
  constructor
  · rintro ⟨e, he, c, o⟩
    by_cases ek : e = k
    · subst ek
      exact SeenL.same h (fun e he => hL e (by omega)) (hL e (Nat.le_refl _)) hx (hs c) o
    · exact ⟨e, by omega, c, o⟩
  · rintro ⟨e, he, c, o⟩
    exact ⟨e, by omega, c, o⟩
omit h in
theorem SeenL.new {k : Nat} (c : Cyc s (L k)) {x : α} : SeenL s r L (k + 1) x ↔ SeenL s r L k x ∨ Same s r (L k) x := by
  constructor
  · rintro ⟨e, he, ce, o⟩
    by_cases ek : e = k
    · subst ek; exact .inr o
    · exact .inl ⟨e, by omega, ce, o⟩
  · rintro (⟨e, he, ce, o⟩ | o)
    · exact ⟨e, by omega, ce, o⟩
    · exact ⟨k, by omega, c, o⟩
end
/-- So many rounds have been counted among the first k states of a list. -/
def Trs {α : Type} (s : α → Option α) (r : α → α) (L : Nat → α) (k c : Nat) : Prop :=
  ∃ t : List α, t.length = c ∧ (∀ x ∈ t, Cyc s x ∧ ∃ e, e < k ∧ L e = x) ∧ (t.Pairwise fun x y => ¬ Same s r x y) ∧ ∀ e, e < k → Cyc s (L e) → ∃ y ∈ t, Same s r (L e) y
theorem Trs.zero {α : Type} {s : α → Option α} {r : α → α} {L : Nat → α} : Trs s r L 0 0 := ⟨[], rfl, by simp, List.Pairwise.nil, fun e he => by omega⟩
theorem Trs.le {α : Type} {s : α → Option α} {r : α → α} {L : Nat → α} {k c : Nat} (h : Trs s r L k c) : c ≤ k := by
  obtain ⟨t, h1, h2, h3, h4⟩ := h
  rw [← h1, ← List.length_range (n := k)]
  refine inj_len (fun x e => L e = x ∧ Cyc s x) t (List.range k) (fun x hx => ?_) ?_
  · obtain ⟨c, e, he, rfl⟩ := h2 x hx
    exact ⟨e, List.mem_range.2 he, rfl, c⟩
  · refine h3.imp ?_
    rintro x y hn e _ ⟨rfl, _⟩ ⟨rfl, _⟩
    exact hn (.inl (On.refl _ _))
section
variable {α : Type} {s : α → Option α} {r : α → α} {V : α → Prop} {code : α → Nat} {N : Nat} (h : Rv s r V code N) {L : Nat → α}
include h
theorem Trs.old {k c : Nat} (ht : Trs s r L k c) (hL : ∀ e, e ≤ k → V (L e)) (hs : Cyc s (L k) → SeenL s r L k (L k)) : Trs s r L (k + 1) c := by
  obtain ⟨t, h1, h2, h3, h4⟩ := ht
  refine ⟨t, h1, fun x hx => ?_, h3, fun e he ce => ?_⟩
  · obtain ⟨cx, e, he, hE⟩ := h2 x hx
    exact ⟨cx, e, by omega, hE⟩
  · by_cases ek : e = k
    · subst ek
      obtain ⟨e', he', ce', o⟩ := hs ce
      obtain ⟨y, hy, o2⟩ := h4 e' he' ce'
      obtain ⟨cy, ey, hey, hE⟩ := h2 y hy
      have hVy : V y := hE ▸ hL ey (by omega)
      have hE2 := h.eqv
      exact ⟨y, hy, hE2.trans _ _ _ ⟨hL e (by omega), ce⟩ ⟨hL e' (by omega), ce'⟩ ⟨hVy, cy⟩ (hE2.symm _ _ ⟨hL e' (by omega), ce'⟩ ⟨hL e (by omega), ce⟩ o) o2⟩
    · exact h4 e (by omega) ce
theorem Trs.new {k c : Nat} (ht : Trs s r L k c) (hL : ∀ e, e ≤ k → V (L e)) (ck : Cyc s (L k)) (hs : ¬ SeenL s r L k (L k)) : Trs s r L (k + 1) (c + 1) := by
  obtain ⟨t, h1, h2, h3, h4⟩ := ht
  refine ⟨t ++ [L k], by simp [h1], fun x hx => ?_, ?_, fun e he ce => ?_⟩
  · rcases List.mem_append.1 hx with hx | hx
    · obtain ⟨cx, e, he, hE⟩ := h2 x hx
      exact ⟨cx, e, by omega, hE⟩
    · rw [List.mem_singleton.1 hx]
      exact ⟨ck, k, by omega, rfl⟩
  · refine List.pairwise_append.2 ⟨h3, List.pairwise_singleton _ _, fun x hx y hy o => ?_⟩
    rw [List.mem_singleton.1 hy] at o
    obtain ⟨cx, e, he, rfl⟩ := h2 x hx
    exact hs ⟨e, he, cx, o⟩
  · by_cases ek : e = k
    · subst ek
      exact ⟨L e, by simp, .inl (On.refl _ _)⟩
    · obtain ⟨y, hy, o⟩ := h4 e (by omega) ce
      exact ⟨y, by simp [hy], o⟩
theorem Trs.num {k c n : Nat} (ht : Trs s r L k c) (hL : ∀ e, e < k → V (L e)) (hall : ∀ x, V x → Cyc s x → ∃ e, e < k ∧ Same s r x (L e)) (hn : Rounds s r V n) : c = n := by
  obtain ⟨t, h1, h2, h3, h4⟩ := ht
  refine Num.unique h.eqv ⟨t, ⟨fun x hx => ?_, h3, fun x hx => ?_⟩, h1⟩ hn
  · obtain ⟨cx, e, he, rfl⟩ := h2 x hx
    exact ⟨hL e he, cx⟩
  · obtain ⟨e, he, o⟩ := hall x hx.1 hx.2
    have ce := h.same_cyc hx.1 (hL e he) hx.2 o
    obtain ⟨y, hy, o2⟩ := h4 e he ce
    obtain ⟨cy, ey, hey, hE⟩ := h2 y hy
    have hVy : V y := hE ▸ hL ey hey
    exact ⟨y, hy, h.eqv.trans _ _ _ hx ⟨hL e he, ce⟩ ⟨hVy, cy⟩ o o2⟩
end

/-- Ports that are paired (nx) and glued (mt). -/
structure Glue (N : Nat) (nx : Nat → Nat) (mt : Nat → Option Nat) : Prop where
  nx_lt : ∀ x, x < N → nx x < N
  nx_nx : ∀ x, x < N → nx (nx x) = x
  nx_ne : ∀ x, x < N → nx x ≠ x
  mt_lt : ∀ x y, mt x = some y → x < N ∧ y < N
  mt_mt : ∀ x y, mt x = some y → mt y = some x
  mt_ne : ∀ x y, mt x = some y → y ≠ x
def gs (nx : Nat → Nat) (mt : Nat → Option Nat) (x : Nat) : Option Nat := mt (nx x)
/-- Where one comes out. -/
def gendF (nx : Nat → Nat) (mt : Nat → Option Nat) : Nat → Nat → Nat
  | 0, x => nx x
  | f + 1, x => match mt (nx x) with
    | none => nx x
    | some y => gendF nx mt f y
theorem gendF_of {nx : Nat → Nat} {mt : Nat → Option Nat} : ∀ f K x y, K ≤ f → iter (gs nx mt) K x = some y → gs nx mt y = none → gendF nx mt f x = nx y := by
  intro f
  induction f with
  | zero =>
    intro K x y hK e hn
    obtain rfl : K = 0 := by omega
    cases e
    rfl
  | succ f ih =>
    intro K x y hK e hn
    cases K with
    | zero =>
      cases e
      have hn' : mt (nx x) = none := hn
      show (match mt (nx x) with | none => nx x | some y => gendF nx mt f y) = nx x
      rw [hn']
    | succ K =>
      rw [iter_succ'] at e
      cases hs : gs nx mt x with
      | none => rw [hs] at e; cases e
      | some z =>
        rw [hs] at e
        have hs' : mt (nx x) = some z := hs
        show (match mt (nx x) with | none => nx x | some y => gendF nx mt f y) = nx y
        rw [hs']
        exact ih K z y (by omega) e hn
/-- The number of rounds. -/
def grounds (N : Nat) (nx : Nat → Nat) (mt : Nat → Option Nat) : Nat := roundsN (gs nx mt) nx N
section
variable {N : Nat} {nx : Nat → Nat} {mt : Nat → Option Nat} (h : Glue N nx mt)
include h
theorem Glue.rv : Rv (gs nx mt) nx (· < N) id N where
  stay := fun x y hx e => (h.mt_lt _ _ e).2
  rv := h.nx_lt
  rr := h.nx_nx
  back := fun x y hx e => by
    have hy := (h.mt_lt _ _ e).2
    show mt (nx (nx y)) = _
    rw [h.nx_nx y hy]
    exact h.mt_mt _ _ e
  code_lt := fun x hx => hx
  code_inj := fun x y _ _ e => e
theorem Glue.no_turn : ∀ k x, x < N → iter (gs nx mt) k x ≠ some (nx x) :=
  h.rv.no_turn h.nx_ne fun x hx e => h.mt_ne _ _ e rfl
theorem Glue.num : Rounds (gs nx mt) nx (· < N) (grounds N nx mt) := roundsN_num h.rv
theorem Glue.outer_ends {x : Nat} (hx : x < N) (ho : mt x = none) : ∃ K y, K < N ∧ iter (gs nx mt) K x = some y ∧ gs nx mt y = none :=
  h.rv.steps.ends hx fun z hz e => by
    have := h.mt_mt _ _ e
    rw [ho] at this
    cases this
theorem Glue.cyc_mt {x : Nat} (c : Cyc (gs nx mt) x) : ∃ y, mt x = some y := by
  obtain ⟨k, hk, e⟩ := c
  obtain ⟨z, hz, hzx⟩ := iter_pred (k := k - 1) (by rw [show k - 1 + 1 = k by omega]; exact e)
  exact ⟨_, h.mt_mt _ _ hzx⟩
theorem Glue.end_pair {x K y : Nat} (hx : x < N) (ho : mt x = none) (hK : K < N) (e : iter (gs nx mt) K x = some y) (hn : gs nx mt y = none) :
    gendF nx mt N x = nx y ∧ nx y < N ∧ mt (nx y) = none ∧ nx y ≠ x ∧ gendF nx mt N (nx y) = x := by
  have hy := h.rv.steps.iter_stay K x y hx e
  have hb := h.rv.iter_back K x y hx e
  refine ⟨gendF_of N K x y (by omega) e hn, h.nx_lt y hy, hn, fun e2 => ?_, ?_⟩
  · have : y = nx x := by rw [← e2, h.nx_nx y hy]
    rw [this] at e
    exact h.no_turn K x hx e
  · rw [gendF_of N K (nx y) (nx x) (by omega) hb (by show mt (nx (nx x)) = none; rw [h.nx_nx x hx]; exact ho), h.nx_nx x hx]
theorem Glue.gend_pair {x : Nat} (hx : x < N) (ho : mt x = none) : gendF nx mt N x < N ∧ mt (gendF nx mt N x) = none ∧ gendF nx mt N x ≠ x ∧ gendF nx mt N (gendF nx mt N x) = x := by
  obtain ⟨K, y, hK, e, hn⟩ := h.outer_ends hx ho
  obtain ⟨h1, h2, h3, h4, h5⟩ := h.end_pair hx ho hK e hn
  rw [h1]
  exact ⟨h2, h3, h4, h5⟩
theorem Glue.way_not_cyc {x K y : Nat} (e : iter (gs nx mt) K x = some y) (hn : gs nx mt y = none) {t z : Nat} (ht : t ≤ K) (hz : iter (gs nx mt) t x = some z) : ¬ Cyc (gs nx mt) z := by
  intro c
  have e2 := e
  rw [show K = t + (K - t) by omega, iter_add, hz] at e2
  obtain ⟨u, hu⟩ := cyc_next (c.on ⟨K - t, e2⟩).2
  rw [hn] at hu
  cases hu
/-- What is marked: the ways of the outer ports below i. -/
def GlueB (N : Nat) (nx : Nat → Nat) (mt : Nat → Option Nat) (i : Nat) (M : Nat → Bool) : Prop :=
  (∀ x, x < N → M x = true → ¬ Cyc (gs nx mt) x) ∧ ∀ q, q < i → q < N → mt q = none → ∀ t y, 0 < t → iter (gs nx mt) t q = some y → M y = true
omit h in
theorem GlueB.zero : GlueB N nx mt 0 fun _ => false := ⟨fun x _ hm => (by cases hm), fun q hq => by omega⟩
theorem GlueB.all {M : Nat → Bool} (hb : GlueB N nx mt N M) {x : Nat} (hx : x < N) {z : Nat} (hm : mt x = some z) : M x = true ↔ ¬ Cyc (gs nx mt) x := by
  refine ⟨hb.1 x hx, fun hc => ?_⟩
  rcases h.rv.steps.ends_or_returns (h.nx_lt x hx) with ⟨K, y, hK, e, hn⟩ | ⟨k, h1, h2, e⟩
  · have hy := h.rv.steps.iter_stay K _ y (h.nx_lt x hx) e
    have hb2 := h.rv.iter_back K _ y (h.nx_lt x hx) e
    rw [h.nx_nx x hx] at hb2
    have hmq : mt (nx y) = none := hn
    have hK0 : 0 < K := by
      rcases Nat.eq_zero_or_pos K with h0 | h0
      · subst h0
        cases hb2
        rw [hmq] at hm
        cases hm
      · exact h0
    exact hb.2 (nx y) (h.nx_lt y hy) (h.nx_lt y hy) hmq K x hK0 hb2
  · exact absurd ((h.rv.cyc_r' hx).1 ⟨k, h1, e⟩) hc
end
end Go.Proofs.Ytoodfgfbppkbmaa
