/- Steps that lead from state to state and never meet: plain facts. -/
/- How many classes there are: plain facts. -/
/- Steps that can be gone backwards, and how many rounds they make: plain facts. -/
/- Beams in grids: plain facts. -/
/- Sums: plain facts. -/
/- Pairings as lists of numbers: plain facts, no program in sight. -/
import Derived.Test.YtmlenaelijchjaaStS
namespace Go.Proofs.Ytmlenaelijchjaa
set_option linter.unusedVariables false
set_option linter.unusedSimpArgs false
set_option linter.unusedSectionVars false

theorem nodup_bound : ∀ (N : Nat) (l : List Nat), l.Nodup → (∀ x ∈ l, x < N) → l.length ≤ N := by
  intro N
  induction N with
  | zero =>
    intro l _ h
    cases l with
    | nil => simp
    | cons a t => have := h a (by simp); omega
  | succ N ih =>
    intro l hd h
    have h1 := ih (l.erase N) (hd.erase N) fun x hx => by
      have := (List.Nodup.mem_erase_iff hd).1 hx
      have := h x this.2
      omega
    by_cases hm : N ∈ l
    · have := List.length_erase_of_mem hm
      omega
    · rw [List.erase_of_not_mem hm] at h1
      omega

theorem pigeon (f : Nat → Nat) (N : Nat) (h : ∀ k, k ≤ N → f k < N) : ∃ i j, i < j ∧ j ≤ N ∧ f i = f j := by
  apply Classical.byContradiction
  intro hn
  have hd : ((List.range (N + 1)).map f).Nodup := by
    refine List.pairwise_map.2 ?_
    refine List.Pairwise.imp_of_mem ?_ List.pairwise_lt_range
    intro a b ha hb hab e
    have := List.mem_range.1 hb
    exact hn ⟨a, b, hab, by omega, e⟩
  have := nodup_bound N _ hd fun x hx => by
    obtain ⟨k, hk, rfl⟩ := List.mem_map.1 hx
    have := List.mem_range.1 hk
    exact h k (by omega)
  simp at this
  omega

/-- k steps on. -/
def iter {α : Type} (s : α → Option α) : Nat → α → Option α
  | 0, x => some x
  | k + 1, x => (iter s k x).bind s

theorem iter_add {α : Type} (s : α → Option α) (j : Nat) : ∀ (k : Nat) (x : α), iter s (j + k) x = (iter s j x).bind (iter s k) := by
  intro k
  induction k with
  | zero => intro x; cases h : iter s j x <;> simp [iter]
  | succ k ih =>
    intro x
    rw [← Nat.add_assoc, iter, ih x]
    cases h : iter s j x <;> simp [iter]

/-- The steps stay among the states of the kind V, and no two of them lead to one. -/
structure Steps {α : Type} (s : α → Option α) (V : α → Prop) (code : α → Nat) (N : Nat) : Prop where
  stay : ∀ x y, V x → s x = some y → V y
  inj : ∀ x x' y, V x → V x' → s x = some y → s x' = some y → x = x'
  code_lt : ∀ x, V x → code x < N
  code_inj : ∀ x y, V x → V y → code x = code y → x = y

theorem Steps.iter_stay {α : Type} {s : α → Option α} {V : α → Prop} {code : α → Nat} {N : Nat} (h : Steps s V code N) : ∀ k x y, V x → iter s k x = some y → V y := by
  intro k
  induction k with
  | zero => intro x y hx e; simp [iter] at e; rw [← e]; exact hx
  | succ k ih =>
    intro x y hx e
    simp only [iter] at e
    cases hz : iter s k x with
    | none => rw [hz] at e; simp at e
    | some z =>
      rw [hz] at e
      exact h.stay z y (ih x z hx hz) e

theorem iter_pred {α : Type} {s : α → Option α} {k : Nat} {x y : α} (e : iter s (k + 1) x = some y) : ∃ z, iter s k x = some z ∧ s z = some y := by
  simp only [iter] at e
  cases hz : iter s k x with
  | none => rw [hz] at e; simp at e
  | some z => rw [hz] at e; exact ⟨z, rfl, e⟩

theorem iter_lt {α : Type} {s : α → Option α} {k : Nat} {x y : α} (e : iter s k x = some y) : ∀ j, j ≤ k → ∃ z, iter s j x = some z := by
  intro j hj
  have : iter s (j + (k - j)) x = some y := by rw [show j + (k - j) = k by omega]; exact e
  rw [iter_add] at this
  cases hz : iter s j x with
  | none => rw [hz] at this; simp at this
  | some z => exact ⟨z, rfl⟩

/-- Where two ways meet they have met a step before. -/
theorem Steps.back {α : Type} {s : α → Option α} {V : α → Prop} {code : α → Nat} {N : Nat} (h : Steps s V code N) :
    ∀ i x x' y, V x → V x' → ∀ d, iter s i x = some y → iter s (i + d) x' = some y → iter s d x' = some x := by
  intro i
  induction i with
  | zero => intro x x' y hx hx' d e e'; simp [iter] at e; rw [Nat.zero_add] at e'; rw [e', ← e]
  | succ i ih =>
    intro x x' y hx hx' d e e'
    obtain ⟨z, hz, hzy⟩ := iter_pred e
    rw [show i + 1 + d = (i + d) + 1 by omega] at e'
    obtain ⟨z', hz', hzy'⟩ := iter_pred e'
    have := h.inj z z' y (h.iter_stay i x z hx hz) (h.iter_stay (i + d) x' z' hx' hz') hzy hzy'
    subst this
    exact ih x x' z hx hx' d hz hz'

/-- From each state the way ends, or comes back to it, within N steps. -/
theorem Steps.ends_or_returns {α : Type} {s : α → Option α} {V : α → Prop} {code : α → Nat} {N : Nat} (h : Steps s V code N) {x : α} (hx : V x) :
    (∃ k y, k < N ∧ iter s k x = some y ∧ s y = none) ∨ (∃ k, 0 < k ∧ k ≤ N ∧ iter s k x = some x) := by
  by_cases hall : ∃ y, iter s N x = some y
  · right
    obtain ⟨y, hy⟩ := hall
    have hdef := iter_lt hy
    have hV : ∀ j, j ≤ N → V ((iter s j x).getD x) := fun j hj => by
      obtain ⟨z, hz⟩ := hdef j hj
      rw [hz]; exact h.iter_stay j x z hx hz
    obtain ⟨i, j, hij, hjN, e⟩ := pigeon (fun j => code ((iter s j x).getD x)) N fun j hj => h.code_lt _ (hV j hj)
    have e2 := h.code_inj _ _ (hV i (by omega)) (hV j hjN) e
    obtain ⟨zi, hzi⟩ := hdef i (by omega)
    obtain ⟨zj, hzj⟩ := hdef j hjN
    rw [hzi, hzj] at e2
    simp only [Option.getD_some] at e2
    subst e2
    refine ⟨j - i, by omega, by omega, ?_⟩
    exact h.back i x x zi hx hx (j - i) hzi (by rw [show i + (j - i) = j by omega]; exact hzj)
  · left
    have : ∀ K, ¬ (∃ y, iter s K x = some y) → ∃ k y, k < K ∧ iter s k x = some y ∧ s y = none := by
      intro K
      induction K with
      | zero => intro hK; exact absurd ⟨x, rfl⟩ hK
      | succ K ih =>
        intro hK
        by_cases hK2 : ∃ y, iter s K x = some y
        · obtain ⟨y, hy⟩ := hK2
          refine ⟨K, y, by omega, hy, ?_⟩
          cases hs : s y with
          | none => rfl
          | some z => exact absurd ⟨z, by simp [iter, hy, hs]⟩ hK
        · obtain ⟨k, y, hk, h1, h2⟩ := ih hK2
          exact ⟨k, y, by omega, h1, h2⟩
    exact this N hall

/-- From a state to which no step leads the way ends. -/
theorem Steps.ends {α : Type} {s : α → Option α} {V : α → Prop} {code : α → Nat} {N : Nat} (h : Steps s V code N) {x : α} (hx : V x) (hno : ∀ z, V z → s z ≠ some x) :
    ∃ k y, k < N ∧ iter s k x = some y ∧ s y = none := by
  rcases h.ends_or_returns hx with h1 | ⟨k, hk, hkN, e⟩
  · exact h1
  · obtain ⟨z, hz, hzx⟩ := iter_pred (k := k - 1) (by rw [show k - 1 + 1 = k by omega]; exact e)
    exact absurd hzx (hno z (h.iter_stay _ x z hx hz))

/-- t has one element of each class of the things of the kind P. -/
structure Trv {α : Type} (P : α → Prop) (R : α → α → Prop) (t : List α) : Prop where
  all : ∀ x ∈ t, P x
  apart : t.Pairwise fun x y => ¬ R x y
  some : ∀ x, P x → ∃ y ∈ t, R x y
/-- There are n classes. -/
def Num {α : Type} (P : α → Prop) (R : α → α → Prop) (n : Nat) : Prop := ∃ t, Trv P R t ∧ t.length = n
structure Eqv {α : Type} (P : α → Prop) (R : α → α → Prop) : Prop where
  refl : ∀ x, P x → R x x
  symm : ∀ x y, P x → P y → R x y → R y x
  trans : ∀ x y z, P x → P y → P z → R x y → R y z → R x z

theorem inj_len {α β : Type} (F : α → β → Prop) : ∀ (l : List α) (t : List β), (∀ x ∈ l, ∃ y ∈ t, F x y) → (l.Pairwise fun x x' => ∀ y ∈ t, F x y → ¬ F x' y) → l.length ≤ t.length := by
  intro l
  induction l with
  | nil => intro t _ _; exact Nat.zero_le _
  | cons a l ih =>
    intro t h hp
    obtain ⟨y, hy, hay⟩ := h a (by simp)
    have hp2 := List.pairwise_cons.1 hp
    obtain ⟨t1, t2, rfl⟩ := List.append_of_mem hy
    have := ih (t1 ++ t2) (fun x hx => by
      obtain ⟨y', hy', hxy⟩ := h x (by simp [hx])
      refine ⟨y', ?_, hxy⟩
      rcases List.mem_append.1 hy' with h1 | h1
      · exact List.mem_append.2 (.inl h1)
      · rcases List.mem_cons.1 h1 with rfl | h1
        · exact absurd hxy (hp2.1 x hx _ hy hay)
        · exact List.mem_append.2 (.inr h1)) (hp2.2.imp fun {u v} huv y' hy' => huv y' (by
          rcases List.mem_append.1 hy' with h1 | h1
          · exact List.mem_append.2 (.inl h1)
          · exact List.mem_append.2 (.inr (List.mem_cons_of_mem _ h1))))
    simp only [List.length_append, List.length_cons] at this ⊢
    omega

theorem Trv.le {α β : Type} {P : α → Prop} {R : α → α → Prop} {P' : β → Prop} {R' : β → β → Prop} (hE : Eqv P' R') {t : List α} {t' : List β} (h : Trv P R t) (h' : Trv P' R' t') (F : α → β → Prop)
    (to : ∀ x, P x → ∃ y, P' y ∧ F x y) (sep : ∀ x x' y y', P x → P x' → P' y → P' y' → F x y → F x' y' → R' y y' → R x x') : t.length ≤ t'.length := by
  refine inj_len (fun x y => ∃ z, P' z ∧ F x z ∧ R' z y) t t' (fun x hx => ?_) ?_
  · obtain ⟨z, hz, hxz⟩ := to x (h.all x hx)
    obtain ⟨y, hy, hzy⟩ := h'.some z hz
    exact ⟨y, hy, z, hz, hxz, hzy⟩
  · refine List.Pairwise.imp_of_mem ?_ h.apart
    rintro x x' hx hx' hn y hy ⟨z, hz, hxz, hzy⟩ ⟨z', hz', hxz', hzy'⟩
    have hPy := h'.all y hy
    exact hn (sep x x' z z' (h.all x hx) (h.all x' hx') hz hz' hxz hxz' (hE.trans z y z' hz hPy hz' hzy (hE.symm z' y hz' hPy hzy')))
theorem Num.eq {α β : Type} {P : α → Prop} {R : α → α → Prop} {P' : β → Prop} {R' : β → β → Prop} (hE : Eqv P R) (hE' : Eqv P' R') {n n' : Nat} (h : Num P R n) (h' : Num P' R' n') (F : α → β → Prop)
    (to : ∀ x, P x → ∃ y, P' y ∧ F x y) (fr : ∀ y, P' y → ∃ x, P x ∧ F x y) (same : ∀ x x' y y', P x → P x' → P' y → P' y' → F x y → F x' y' → (R' y y' ↔ R x x')) : n = n' := by
  obtain ⟨t, ht, rfl⟩ := h
  obtain ⟨t', ht', rfl⟩ := h'
  have h1 := ht.le hE' ht' F to fun x x' y y' a b c d e f g => (same x x' y y' a b c d e f).1 g
  have h2 := ht'.le hE ht (fun y x => F x y) fr fun y y' x x' a b c d e f g => (same x x' y y' c d a b e f).2 g
  omega
theorem Num.unique {α : Type} {P : α → Prop} {R : α → α → Prop} (hE : Eqv P R) {n n' : Nat} (h : Num P R n) (h' : Num P R n') : n = n' :=
  h.eq hE hE h' Eq (fun x hx => ⟨x, hx, rfl⟩) (fun x hx => ⟨x, hx, rfl⟩) (by rintro x x' _ _ _ _ _ _ rfl rfl; exact Iff.rfl)
/-- The same kinds, the same classes. -/
theorem Num.congr {α : Type} {P P' : α → Prop} {R R' : α → α → Prop} {n : Nat} (h : Num P R n) (hp : ∀ x, P x ↔ P' x) (hr : ∀ x y, P x → P y → (R x y ↔ R' x y)) : Num P' R' n := by
  obtain ⟨t, ht, rfl⟩ := h
  refine ⟨t, ⟨fun x hx => (hp x).1 (ht.all x hx), ?_, fun x hx => ?_⟩, rfl⟩
  · refine List.Pairwise.imp_of_mem ?_ ht.apart
    intro a b ha hb hn hab
    exact hn ((hr a b (ht.all a ha) (ht.all b hb)).2 hab)
  · obtain ⟨y, hy, hxy⟩ := ht.some x ((hp x).2 hx)
    exact ⟨y, hy, (hr x y ((hp x).2 hx) (ht.all y hy)).1 hxy⟩
/-- Two kinds that have no class together. -/
theorem Num.add {α : Type} {P Q : α → Prop} {R : α → α → Prop} {n k : Nat} (h : Num (fun x => P x ∧ Q x) R n) (h' : Num (fun x => P x ∧ ¬ Q x) R k) (hq : ∀ x y, P x → P y → R x y → (Q x ↔ Q y)) : Num P R (n + k) := by
  obtain ⟨t, ht, rfl⟩ := h
  obtain ⟨t', ht', rfl⟩ := h'
  refine ⟨t ++ t', ⟨fun x hx => ?_, List.pairwise_append.2 ⟨ht.apart, ht'.apart, fun x hx y hy hxy => ?_⟩, fun x hx => ?_⟩, by simp⟩
  · rcases List.mem_append.1 hx with hx | hx
    · exact (ht.all x hx).1
    · exact (ht'.all x hx).1
  · exact (ht'.all y hy).2 ((hq x y (ht.all x hx).1 (ht'.all y hy).1 hxy).1 (ht.all x hx).2)
  · by_cases q : Q x
    · obtain ⟨y, hy, hxy⟩ := ht.some x ⟨hx, q⟩
      exact ⟨y, List.mem_append.2 (.inl hy), hxy⟩
    · obtain ⟨y, hy, hxy⟩ := ht'.some x ⟨hx, q⟩
      exact ⟨y, List.mem_append.2 (.inr hy), hxy⟩
/-- Finitely many things have some number of classes. -/
theorem Num.any {α : Type} {P : α → Prop} {R : α → α → Prop} (hE : Eqv P R) (L : List α) (hL : ∀ x, P x → x ∈ L) : ∃ n, Num P R n := by
  have key : ∀ l : List α, ∃ t : List α, (∀ x ∈ t, P x) ∧ (t.Pairwise fun x y => ¬ R x y) ∧ ∀ x ∈ l, P x → ∃ y ∈ t, R x y := by
    intro l
    induction l with
    | nil => exact ⟨[], by simp, List.Pairwise.nil, by simp⟩
    | cons a l ih =>
      obtain ⟨t, h1, h2, h3⟩ := ih
      by_cases ha : P a ∧ ∀ y ∈ t, ¬ R a y
      · refine ⟨a :: t, fun x hx => ?_, List.pairwise_cons.2 ⟨ha.2, h2⟩, fun x hx hp => ?_⟩
        · rcases List.mem_cons.1 hx with rfl | hx
          · exact ha.1
          · exact h1 x hx
        · rcases List.mem_cons.1 hx with rfl | hx
          · exact ⟨_, List.mem_cons_self, hE.refl _ hp⟩
          · obtain ⟨y, hy, hxy⟩ := h3 x hx hp
            exact ⟨y, List.mem_cons_of_mem _ hy, hxy⟩
      · refine ⟨t, h1, h2, fun x hx hp => ?_⟩
        rcases List.mem_cons.1 hx with rfl | hx
        · apply Classical.byContradiction
          intro hn
          exact ha ⟨hp, fun y hy hxy => hn ⟨y, hy, hxy⟩⟩
        · exact h3 x hx hp
  obtain ⟨t, h1, h2, h3⟩ := key L
  exact ⟨t.length, t, ⟨h1, h2, fun x hx => h3 x (hL x hx) hx⟩, rfl⟩
theorem Num.none {α : Type} {P : α → Prop} {R : α → α → Prop} (h : ∀ x, ¬ P x) : Num P R 0 := ⟨[], ⟨by simp, List.Pairwise.nil, fun x hx => absurd hx (h x)⟩, rfl⟩
/-- A part of the classes. -/
theorem Num.part {α : Type} {P Q : α → Prop} {R : α → α → Prop} {n : Nat} (hE : Eqv P R) (h : Num P R n) (hq : ∀ x y, P x → P y → R x y → (Q x ↔ Q y)) : ∃ a b, n = a + b ∧ Num (fun x => P x ∧ Q x) R a ∧ Num (fun x => P x ∧ ¬ Q x) R b := by
  obtain ⟨t, ht, rfl⟩ := h
  have key : ∀ (Q : α → Prop), (∀ x y, P x → P y → R x y → (Q x ↔ Q y)) → ∀ l : List α, (∀ x ∈ l, P x) → (l.Pairwise fun x y => ¬ R x y) → (∀ x, P x → ∃ y ∈ t, R x y) → (∀ y ∈ t, Q y → y ∈ l) → (∀ y ∈ l, Q y) → Trv (fun x => P x ∧ Q x) R l := by
    intro Q hq l h1 h2 h3 h4 h5
    refine ⟨fun x hx => ⟨h1 x hx, h5 x hx⟩, h2, fun x hx => ?_⟩
    obtain ⟨y, hy, hxy⟩ := h3 x hx.1
    exact ⟨y, h4 y hy ((hq x y hx.1 (ht.all y hy) hxy).1 hx.2), hxy⟩
  have dec : DecidablePred Q := fun x => Classical.propDecidable (Q x)
  refine ⟨(t.filter Q).length, (t.filter fun x => ! Q x).length, ?_, ⟨_, key Q hq _ ?_ ?_ ht.some ?_ ?_, rfl⟩, ⟨_, key (fun x => ¬ Q x) (fun x y a b c => not_congr (hq x y a b c)) _ ?_ ?_ ht.some ?_ ?_, rfl⟩⟩
  · clear ht key
    induction t with
    | nil => rfl
    | cons a t ih =>
      by_cases q : Q a
      · simp [q]; omega
      · simp [q]; omega
  · intro x hx; exact ht.all x (List.mem_filter.1 hx).1
  · exact List.Pairwise.filter _ ht.apart
  · intro y hy q; exact List.mem_filter.2 ⟨hy, by simp [q]⟩
  · intro y hy; simpa using (List.mem_filter.1 hy).2
  · intro x hx; exact ht.all x (List.mem_filter.1 hx).1
  · exact List.Pairwise.filter _ ht.apart
  · intro y hy q; exact List.mem_filter.2 ⟨hy, by simp [q]⟩
  · intro y hy; simpa using (List.mem_filter.1 hy).2

/-- y lies on the way from x. -/
def On {α : Type} (s : α → Option α) (x y : α) : Prop := ∃ k, iter s k x = some y
/-- The way from x comes back to x. -/
def Cyc {α : Type} (s : α → Option α) (x : α) : Prop := ∃ k, 0 < k ∧ iter s k x = some x
/-- x and y lie on one way, gone forwards or backwards. -/
def Same {α : Type} (s : α → Option α) (r : α → α) (x y : α) : Prop := On s x y ∨ On s x (r y)
/-- Each step is a step backwards from the reversed state. -/
structure Rv {α : Type} (s : α → Option α) (r : α → α) (V : α → Prop) (code : α → Nat) (N : Nat) : Prop where
  stay : ∀ x y, V x → s x = some y → V y
  rv : ∀ x, V x → V (r x)
  rr : ∀ x, V x → r (r x) = x
  back : ∀ x y, V x → s x = some y → s (r y) = some (r x)
  code_lt : ∀ x, V x → code x < N
  code_inj : ∀ x y, V x → V y → code x = code y → x = y

theorem On.refl {α : Type} (s : α → Option α) (x : α) : On s x x := ⟨0, rfl⟩
theorem On.trans {α : Type} {s : α → Option α} {x y z : α} (h : On s x y) (k : On s y z) : On s x z := by
  obtain ⟨i, hi⟩ := h
  obtain ⟨j, hj⟩ := k
  exact ⟨i + j, by rw [iter_add, hi]; exact hj⟩
theorem On.step {α : Type} {s : α → Option α} {x y : α} (h : s x = some y) : On s x y := ⟨1, by simp [iter, h]⟩
theorem iter_succ' {α : Type} (s : α → Option α) (k : Nat) (x : α) : iter s (k + 1) x = (s x).bind (iter s k) := by
  have := iter_add s 1 k x
  rw [Nat.add_comm] at this
  rw [this]
  rfl
theorem Cyc.pow {α : Type} {s : α → Option α} {k : Nat} {x : α} (h : iter s k x = some x) : ∀ j, iter s (j * k) x = some x := by
  intro j
  induction j with
  | zero => simp [iter]
  | succ j ih => rw [Nat.succ_mul, iter_add, ih]; exact h
theorem Cyc.on {α : Type} {s : α → Option α} {x y : α} (h : Cyc s x) (o : On s x y) : On s y x ∧ Cyc s y := by
  obtain ⟨k, hk, e⟩ := h
  obtain ⟨j, hj⟩ := o
  have hle : j ≤ j * k := Nat.le_mul_of_pos_right j hk
  have e2 := Cyc.pow e j
  rw [show j * k = j + (j * k - j) by omega, iter_add, hj] at e2
  have e3 : iter s (j * k - j) y = some x := e2
  refine ⟨⟨_, e3⟩, ?_⟩
  by_cases h0 : j = 0
  · subst h0
    simp [iter] at hj
    subst hj
    exact ⟨k, hk, e⟩
  · refine ⟨(j * k - j) + j, by omega, ?_⟩
    rw [iter_add, e3]
    exact hj

section
variable {α : Type} {s : α → Option α} {r : α → α} {V : α → Prop} {code : α → Nat} {N : Nat} (h : Rv s r V code N)
include h
theorem Rv.steps : Steps s V code N where
  stay := h.stay
  inj := fun x x' y hx hx' e e' => by
    have h1 := h.back x y hx e
    rw [h.back x' y hx' e'] at h1
    rw [← h.rr x hx, ← h.rr x' hx', Option.some.inj h1]
  code_lt := h.code_lt
  code_inj := h.code_inj
theorem Rv.iter_back : ∀ k x y, V x → iter s k x = some y → iter s k (r y) = some (r x) := by
  intro k
  induction k with
  | zero => intro x y hx e; simp [iter] at e; subst e; rfl
  | succ k ih =>
    intro x y hx e
    obtain ⟨z, hz, hzy⟩ := iter_pred e
    have hV := h.steps.iter_stay k x z hx hz
    rw [iter_succ', h.back z y hV hzy]
    exact ih x z hx hz
theorem Rv.on_val {x y : α} (hx : V x) (o : On s x y) : V y := by
  obtain ⟨k, e⟩ := o
  exact h.steps.iter_stay k x y hx e
theorem Rv.on_back {x y : α} (hx : V x) (o : On s x y) : On s (r y) (r x) := by
  obtain ⟨k, e⟩ := o
  exact ⟨k, h.iter_back k x y hx e⟩
theorem Rv.cyc_r {x : α} (hx : V x) (c : Cyc s x) : Cyc s (r x) := by
  obtain ⟨k, hk, e⟩ := c
  exact ⟨k, hk, h.iter_back k x x hx e⟩
theorem Rv.eqv : Eqv (fun x => V x ∧ Cyc s x) (Same s r) where
  refl := fun x _ => .inl (On.refl _ _)
  symm := by
    rintro x y ⟨hx, cx⟩ ⟨hy, cy⟩ (o | o)
    · exact .inl (cx.on o).1
    · refine .inr ?_
      have h1 := h.on_back (h.rv y hy) (cx.on o).1
      rw [h.rr y hy] at h1
      exact ((h.cyc_r hx cx).on h1).1
  trans := by
    rintro x y z ⟨hx, cx⟩ ⟨hy, cy⟩ ⟨hz, cz⟩ (o | o) (p | p)
    · exact .inl (o.trans p)
    · exact .inr (o.trans p)
    · exact .inr (o.trans ((h.cyc_r hz cz).on (h.on_back hy p)).1)
    · refine .inl (o.trans ?_)
      have h1 := h.on_back hy p
      rw [h.rr z hz] at h1
      exact (cz.on h1).1
theorem Rv.same_cyc {x y : α} (hx : V x) (hy : V y) (c : Cyc s x) (o : Same s r x y) : Cyc s y := by
  rcases o with o | o
  · exact (c.on o).2
  · have := h.cyc_r (h.rv y hy) (c.on o).2
    rwa [h.rr y hy] at this
/-- A way never turns back upon itself. -/
theorem Rv.no_turn (rne : ∀ x, V x → r x ≠ x) (nrev : ∀ x, V x → s x ≠ some (r x)) : ∀ k x, V x → iter s k x ≠ some (r x) := by
  intro k
  induction k using Nat.strongRecOn with
  | _ k ih =>
    intro x hx e
    match k, e with
    | 0, e => simp [iter] at e; exact rne x hx e.symm
    | 1, e => simp [iter] at e; exact nrev x hx e
    | k + 2, e =>
      obtain ⟨w, hw, hwx⟩ := iter_pred e
      rw [iter_succ'] at hw
      cases hz : s x with
      | none => rw [hz] at hw; simp at hw
      | some z =>
        rw [hz] at hw
        have hw2 : iter s k z = some w := hw
        have hzV := h.stay x z hx hz
        have hwV := h.steps.iter_stay k z w hzV hw2
        have h1 := h.back w (r x) hwV hwx
        rw [h.rr x hx, hz] at h1
        have h2 : w = r z := by rw [Option.some.inj h1, h.rr w hwV]
        rw [h2] at hw2
        exact ih k (by omega) z hzV hw2
end

/-- The number of rounds. -/
def Rounds {α : Type} (s : α → Option α) (r : α → α) (V : α → Prop) (n : Nat) : Prop := Num (fun x => V x ∧ Cyc s x) (Same s r) n
/-- y is the first state of the kind T on the way from x, behind x itself. -/
def Fst {α : Type} (s : α → Option α) (T : α → Prop) (x y : α) : Prop := ∃ k, 0 < k ∧ iter s k x = some y ∧ T y ∧ ∀ j z, 0 < j → j < k → iter s j x = some z → ¬ T z

/-- A system of the states of one kind alone: its steps lead from such a state to the next one. -/
structure Contr {α τ : Type} (s : α → Option α) (r : α → α) (V : α → Prop) (T : α → Prop) (s' : τ → Option τ) (r' : τ → τ) (V' : τ → Prop) (emb : τ → α) : Prop where
  val : ∀ x, V' x → V (emb x) ∧ T (emb x)
  inj : ∀ x y, V' x → V' y → emb x = emb y → x = y
  surj : ∀ y, V y → T y → Cyc s y → ∃ x, V' x ∧ emb x = y
  nxt : ∀ x y, V' x → s' x = some y → Fst s T (emb x) (emb y)
  stop : ∀ x, V' x → s' x = none → ¬ Cyc s (emb x)
  rev : ∀ x, V' x → Cyc s (emb x) → On s (r (emb x)) (emb (r' x))

section
variable {α τ : Type} {s : α → Option α} {r : α → α} {V : α → Prop} {code : α → Nat} {N : Nat} (h : Rv s r V code N)
  {s' : τ → Option τ} {r' : τ → τ} {V' : τ → Prop} {code' : τ → Nat} {N' : Nat} (h' : Rv s' r' V' code' N') {T : α → Prop} {emb : τ → α} (hc : Contr s r V T s' r' V' emb)
include h h' hc
theorem Contr.on : ∀ k x y, V' x → iter s' k x = some y → ∃ K, k ≤ K ∧ iter s K (emb x) = some (emb y) := by
  intro k
  induction k with
  | zero => intro x y hx e; simp [iter] at e; subst e; exact ⟨0, Nat.le_refl _, rfl⟩
  | succ k ih =>
    intro x y hx e
    obtain ⟨z, hz, hzy⟩ := iter_pred e
    obtain ⟨K, hK, e1⟩ := ih x z hx hz
    obtain ⟨j, hj, e2, _⟩ := hc.nxt z y (h'.steps.iter_stay k x z hx hz) hzy
    exact ⟨K + j, by omega, by rw [iter_add, e1]; exact e2⟩
theorem Contr.cyc {x : τ} (hx : V' x) : Cyc s' x ↔ Cyc s (emb x) := by
  constructor
  · rintro ⟨k, hk, e⟩
    obtain ⟨K, hK, e1⟩ := Contr.on h h' hc k x x hx e
    exact ⟨K, by omega, e1⟩
  · intro c
    rcases h'.steps.ends_or_returns hx with ⟨k, y, _, e, hy⟩ | ⟨k, hk, _, e⟩
    · obtain ⟨K, _, e1⟩ := Contr.on h h' hc k x y hx e
      exact absurd (c.on ⟨K, e1⟩).2 (hc.stop y (h'.steps.iter_stay k x y hx e) hy)
    · exact ⟨k, hk, e⟩
theorem Contr.on_iff {x y : τ} (hx : V' x) (hy : V' y) (c : Cyc s (emb x)) : On s' x y ↔ On s (emb x) (emb y) := by
  constructor
  · rintro ⟨k, e⟩
    obtain ⟨K, _, e1⟩ := Contr.on h h' hc k x y hx e
    exact ⟨K, e1⟩
  · rintro ⟨K, e⟩
    induction K using Nat.strongRecOn generalizing x with
    | _ K ih =>
      by_cases h0 : K = 0
      · subst h0
        simp [iter] at e
        rw [hc.inj x y hx hy e]
        exact On.refl _ _
      · cases hs : s' x with
        | none => exact absurd c (hc.stop x hx hs)
        | some z =>
          obtain ⟨k, hk, e1, _, hf⟩ := hc.nxt x z hx hs
          have hle : k ≤ K := by
            apply Nat.le_of_not_lt
            intro hlt
            exact hf K (emb y) (by omega) hlt e (hc.val y hy).2
          have e2 := e
          rw [show K = k + (K - k) by omega, iter_add, e1] at e2
          have hz := h'.stay x z hx hs
          exact (On.step hs).trans (ih (K - k) (by omega) hz (c.on ⟨k, e1⟩).2 e2)
theorem Contr.same {x y : τ} (hx : V' x) (hy : V' y) (cx : Cyc s (emb x)) (cy : Cyc s (emb y)) : Same s' r' x y ↔ Same s r (emb x) (emb y) := by
  have hry := h'.rv y hy
  have h1 := hc.rev y hy cy
  have h2 := ((h.cyc_r (hc.val y hy).1 cy).on h1).1
  unfold Same
  rw [Contr.on_iff h h' hc hx hy cx, Contr.on_iff h h' hc hx hry cx]
  constructor
  · rintro (o | o)
    · exact .inl o
    · exact .inr (o.trans h2)
  · rintro (o | o)
    · exact .inl o
    · exact .inr (o.trans h1)
/-- The rounds that meet the kind T are as many as those of the system of T alone. -/
theorem Contr.rounds {n n' : Nat} (hn : Num (fun x => (V x ∧ Cyc s x) ∧ ∃ y, V y ∧ T y ∧ Same s r x y) (Same s r) n) (hn' : Rounds s' r' V' n') : n = n' := by
  have hE := h.eqv
  have hE2 : Eqv (fun x => (V x ∧ Cyc s x) ∧ ∃ y, V y ∧ T y ∧ Same s r x y) (Same s r) :=
    ⟨fun x hx => hE.refl x hx.1, fun x y hx hy => hE.symm x y hx.1 hy.1, fun x y z hx hy hz => hE.trans x y z hx.1 hy.1 hz.1⟩
  have ok : ∀ y, V' y ∧ Cyc s' y → V (emb y) ∧ Cyc s (emb y) := fun y hy => ⟨(hc.val y hy.1).1, (Contr.cyc h h' hc hy.1).1 hy.2⟩
  refine Num.eq hE2 h'.eqv hn hn' (fun x y => Same s r x (emb y)) ?_ ?_ ?_
  · rintro x ⟨⟨hx, cx⟩, y, hy, ty, o⟩
    have cy := h.same_cyc hx hy cx o
    obtain ⟨x', hx', rfl⟩ := hc.surj y hy ty cy
    exact ⟨x', ⟨hx', (Contr.cyc h h' hc hx').2 cy⟩, o⟩
  · intro y hy
    exact ⟨emb y, ⟨ok y hy, emb y, (ok y hy).1, (hc.val y hy.1).2, .inl (On.refl _ _)⟩, .inl (On.refl _ _)⟩
  · intro x x' y y' hx hx' hy hy' o o'
    rw [Contr.same h h' hc hy.1 hy'.1 (ok y hy).2 (ok y' hy').2]
    constructor
    · intro p
      exact hE.trans x (emb y) x' hx.1 (ok y hy) hx'.1 o (hE.trans _ _ _ (ok y hy) (ok y' hy') hx'.1 p (hE.symm _ _ hx'.1 (ok y' hy') o'))
    · intro p
      exact hE.trans _ _ _ (ok y hy) hx.1 (ok y' hy') (hE.symm _ _ hx.1 (ok y hy) o) (hE.trans _ _ _ hx.1 hx'.1 (ok y' hy') p o')
end
theorem Rv.meets {α : Type} {s : α → Option α} {r : α → α} {V : α → Prop} {code : α → Nat} {N : Nat} (h : Rv s r V code N) (T : α → Prop) :
    ∀ x y, (V x ∧ Cyc s x) → (V y ∧ Cyc s y) → Same s r x y → ((∃ z, V z ∧ T z ∧ Same s r x z) ↔ ∃ z, V z ∧ T z ∧ Same s r y z) := by
  intro x y hx hy o
  constructor
  · rintro ⟨z, hz, tz, p⟩
    exact ⟨z, hz, tz, h.eqv.trans y x z hy hx ⟨hz, h.same_cyc hx.1 hz hx.2 p⟩ (h.eqv.symm x y hx hy o) p⟩
  · rintro ⟨z, hz, tz, p⟩
    exact ⟨z, hz, tz, h.eqv.trans x y z hx hy ⟨hz, h.same_cyc hy.1 hz hy.2 p⟩ o p⟩

/-- A grid: rows, columns, letters. -/
structure Gr where
  n : Nat
  m : Nat
  lt : Nat → Nat → Int
structure Gr.ok (g : Gr) : Prop where
  n1 : 1 ≤ g.n
  n5 : g.n ≤ 5
  m1 : 1 ≤ g.m
  m5 : g.m ≤ 5
  let' : ∀ i k, i < g.n → k < g.m → letB (g.lt i k) = true
def gr (ss : List ByteArray) : Gr := ⟨ss.length, (rowOf ss 0).size, fun i k => sgn (rowOf ss i) k⟩
theorem gr_ok {ss : List ByteArray} (h : gridB ss = true) : (gr ss).ok := by
  obtain ⟨h1, h2, h3⟩ := gridB_iff.1 h
  exact ⟨h1.1, h1.2, h3.1, h3.2, fun i k hi hk => (rowB_iff.1 (h2 i hi)).2 k hk⟩
theorem gr_row {ss : List ByteArray} (h : gridB ss = true) {i : Nat} (hi : i < ss.length) : (rowOf ss i).size = (gr ss).m :=
  (rowB_iff.1 ((gridB_iff.1 h).2.1 i hi)).1

/-- The direction behind a cell. -/
def bend (c : Int) (d : Nat) : Nat :=
  if c = 114 then (if d = 0 then 1 else if d = 1 then 0 else if d = 2 then 3 else 2) else if c = 102 then 3 - d else d
theorem bend_lt (c : Int) {d : Nat} (h : d < 4) : bend c d < 4 := by
  unfold bend; repeat' split
  all_goals omega
theorem bend_bend (c : Int) {d : Nat} (h : d < 4) : bend c (bend c d) = d := by
  have : d = 0 ∨ d = 1 ∨ d = 2 ∨ d = 3 := by omega
  unfold bend
  rcases this with rfl | rfl | rfl | rfl <;> (by_cases h1 : c = 114 <;> by_cases h2 : c = 102 <;> simp [h1, h2])

/-- A cell that is entered in a direction. -/
abbrev Stt := Nat × Nat
/-- The direction in which a state's cell is left. -/
def Gr.dir (g : Gr) (x : Stt) : Nat := bend (g.lt (x.1 / g.m) (x.1 % g.m)) x.2
/-- The next state, if the grid is not left. -/
def Gr.nx (g : Gr) (x : Stt) : Option Stt :=
  if g.dir x = 0 then (if x.1 / g.m = 0 then none else some (x.1 - g.m, 0))
  else if g.dir x = 1 then (if x.1 % g.m = g.m - 1 then none else some (x.1 + 1, 1))
  else if g.dir x = 2 then (if x.1 / g.m = g.n - 1 then none else some (x.1 + g.m, 2))
  else (if x.1 % g.m = 0 then none else some (x.1 - 1, 3))
/-- The port where it is left. -/
def Gr.out (g : Gr) (x : Stt) : Nat :=
  if g.dir x = 0 then x.1 % g.m
  else if g.dir x = 1 then g.m + x.1 / g.m
  else if g.dir x = 2 then g.m + g.n + g.m - 1 - x.1 % g.m
  else 2 * g.m + g.n + g.n - 1 - x.1 / g.m
/-- Where a port is entered. -/
def Gr.ent (g : Gr) (p : Nat) : Stt :=
  if p < g.m then (p, 2)
  else if p < g.m + g.n then ((p - g.m) * g.m + g.m - 1, 3)
  else if p < 2 * g.m + g.n then ((g.n - 1) * g.m + g.m - 1 - (p - g.m - g.n), 0)
  else ((g.n - 1 - (p - 2 * g.m - g.n)) * g.m, 1)
def Gr.val (g : Gr) (x : Stt) : Prop := x.1 < g.n * g.m ∧ x.2 < 4
def Gr.ports (g : Gr) : Nat := 2 * g.n + 2 * g.m

theorem Gr.dir_lt {g : Gr} {x : Stt} (h : g.val x) : g.dir x < 4 := bend_lt _ h.2

theorem Gr.cell_eq {g : Gr} (hg : g.ok) (c : Nat) : c / g.m * g.m + c % g.m = c := Nat.div_add_mod' c g.m
theorem Gr.div_of {g : Gr} (hg : g.ok) {i k : Nat} (hk : k < g.m) : (i * g.m + k) / g.m = i := by
  rw [Nat.mul_comm, Nat.mul_add_div hg.m1, Nat.div_eq_of_lt hk]; omega
theorem Gr.mod_of {g : Gr} (hg : g.ok) {i k : Nat} (hk : k < g.m) : (i * g.m + k) % g.m = k := by
  rw [Nat.mul_comm, Nat.mul_add_mod, Nat.mod_eq_of_lt hk]
theorem Gr.cell_lt {g : Gr} (hg : g.ok) {i k : Nat} (hi : i < g.n) (hk : k < g.m) : i * g.m + k < g.n * g.m := by
  have : (i + 1) * g.m ≤ g.n * g.m := Nat.mul_le_mul_right _ hi
  rw [Nat.succ_mul] at this
  omega

section
variable {g : Gr} (hg : g.ok)
include hg
theorem Gr.row_lt {c : Nat} (h : c < g.n * g.m) : c / g.m < g.n := (Nat.div_lt_iff_lt_mul hg.m1).2 h
theorem Gr.col_lt (c : Nat) : c % g.m < g.m := Nat.mod_lt _ hg.m1
theorem Gr.size_le : g.n * g.m ≤ 25 := by
  have := Nat.mul_le_mul hg.n5 hg.m5
  omega

theorem Gr.nx_val {x y : Stt} (h : g.val x) (e : g.nx x = some y) : g.val y := by
  have hr := Gr.row_lt hg h.1
  have hc := Gr.col_lt hg x.1
  have hx := Gr.cell_eq hg x.1
  unfold Gr.nx at e
  split at e
  · split at e
    · cases e
    · cases e; exact ⟨by have := h.1; simp; omega, by simp⟩
  · split at e
    · split at e
      · cases e
      · cases e
        refine ⟨?_, by simp⟩
        have := Gr.cell_lt hg hr (show x.1 % g.m + 1 < g.m by omega)
        simp; omega
    · split at e
      · split at e
        · cases e
        · rename_i hne
          cases e
          refine ⟨?_, by simp⟩
          have hrow : ∀ q, q < g.n → ¬ q = g.n - 1 → q + 1 < g.n := by intro q; omega
          have := Gr.cell_lt hg (hrow _ hr hne) hc
          rw [Nat.succ_mul] at this
          show x.1 + g.m < g.n * g.m
          omega
      · split at e
        · cases e
        · cases e; exact ⟨by have := h.1; simp; omega, by simp⟩

/-- From where a state is come to. -/
def Gr.pv (g : Gr) (y : Stt) : Stt :=
  let c := if y.2 = 0 then y.1 + g.m else if y.2 = 1 then y.1 - 1 else if y.2 = 2 then y.1 - g.m else y.1 + 1
  (c, bend (g.lt (c / g.m) (c % g.m)) y.2)
theorem Gr.pv_of {x y : Stt} (h : g.val x) (e : g.nx x = some y) : g.pv y = x := by
  have hr := Gr.row_lt hg h.1
  have hc := Gr.col_lt hg x.1
  have hx := Gr.cell_eq hg x.1
  have hm := hg.m1
  have hd := Gr.dir_lt h
  have hb : bend (g.lt (x.1 / g.m) (x.1 % g.m)) (g.dir x) = x.2 := bend_bend _ h.2
  unfold Gr.nx at e
  split at e
  · rename_i h0
    split at e
    · cases e
    · rename_i h1
      cases e
      have : g.m ≤ x.1 := by
        have : 1 * g.m ≤ x.1 / g.m * g.m := Nat.mul_le_mul_right _ (Nat.pos_of_ne_zero h1)
        omega
      rw [h0] at hb
      simp only [Gr.pv, if_true, Nat.sub_add_cancel this, hb]
  · split at e
    · rename_i h0
      split at e
      · cases e
      · cases e
        rw [h0] at hb
        simp [Gr.pv, hb]
    · split at e
      · rename_i h0
        split at e
        · cases e
        · cases e
          rw [h0] at hb
          simp [Gr.pv, hb]
      · rename_i h0 h1 h2
        split at e
        · cases e
        · rename_i h3
          cases e
          have h4 : g.dir x = 3 := by omega
          rw [h4] at hb
          have : 1 ≤ x.1 := by
            have : x.1 % g.m ≤ x.1 := Nat.mod_le _ _
            omega
          simp [Gr.pv, Nat.sub_add_cancel this, hb]

theorem Gr.steps : Steps g.nx g.val (fun x => 4 * x.1 + x.2) (4 * (g.n * g.m)) where
  stay := fun x y hx e => Gr.nx_val hg hx e
  inj := fun x x' y hx hx' e e' => by rw [← Gr.pv_of hg hx e, ← Gr.pv_of hg hx' e']
  code_lt := fun x hx => by have := hx.1; have := hx.2; omega
  code_inj := fun x y hx hy e => by
    have := hx.2
    have := hy.2
    have h1 : x.1 = y.1 := by omega
    have h2 : x.2 = y.2 := by omega
    exact Prod.ext h1 h2

theorem Gr.ent_val {p : Nat} (hp : p < g.ports) : g.val (g.ent p) := by
  have hn := hg.n1
  have hm := hg.m1
  unfold Gr.ports at hp
  unfold Gr.ent
  split
  · rename_i h
    have := Gr.cell_lt hg (show 0 < g.n by omega) h
    exact ⟨by simpa using this, by simp⟩
  · split
    · rename_i h0 h
      have := Gr.cell_lt hg (show p - g.m < g.n by omega) (show g.m - 1 < g.m by omega)
      exact ⟨by simp; omega, by simp⟩
    · split
      · rename_i h0 h1 h
        have := Gr.cell_lt hg (show g.n - 1 < g.n by omega) (show g.m - 1 - (p - g.m - g.n) < g.m by omega)
        exact ⟨by simp; omega, by simp⟩
      · have := Gr.cell_lt hg (show g.n - 1 - (p - 2 * g.m - g.n) < g.n by omega) (show 0 < g.m by omega)
        exact ⟨by simpa using this, by simp⟩

/-- No step leads to where a port is entered. -/
theorem Gr.ent_no {p : Nat} (hp : p < g.ports) (z : Stt) (hz : g.val z) : g.nx z ≠ some (g.ent p) := by
  intro e
  have hr := Gr.row_lt hg hz.1
  have hc := Gr.col_lt hg z.1
  have hx := Gr.cell_eq hg z.1
  have hn := hg.n1
  have hm := hg.m1
  unfold Gr.ports at hp
  unfold Gr.nx Gr.ent at e
  by_cases p1 : p < g.m
  · rw [if_pos p1] at e
    repeat' split at e
    all_goals first | (simp at e; done) | skip
    all_goals simp only [Option.some.injEq, Prod.mk.injEq] at e
    all_goals omega
  · rw [if_neg p1] at e
    by_cases p2 : p < g.m + g.n
    · rw [if_pos p2] at e
      repeat' split at e
      all_goals first | (simp at e; done) | skip
      all_goals simp only [Option.some.injEq, Prod.mk.injEq] at e
      all_goals first | omega | skip
      rename_i h0 h1 h2 h3
      have e1 : z.1 = (p - g.m + 1) * g.m + 0 := by rw [Nat.succ_mul]; omega
      rw [e1, Gr.mod_of hg (by omega)] at h3
      exact h3 rfl
    · rw [if_neg p2] at e
      by_cases p3 : p < 2 * g.m + g.n
      · rw [if_pos p3] at e
        repeat' split at e
        all_goals first | (simp at e; done) | skip
        all_goals simp only [Option.some.injEq, Prod.mk.injEq] at e
        all_goals first | omega | skip
        rename_i hne
        have h1 := hz.1
        have h2 : (g.n - 1 + 1) * g.m = (g.n - 1) * g.m + g.m := Nat.succ_mul _ _
        rw [show g.n - 1 + 1 = g.n by omega] at h2
        have h3 : g.m ≤ z.1 := by
          have : 1 * g.m ≤ z.1 / g.m * g.m := Nat.mul_le_mul_right _ (Nat.pos_of_ne_zero hne)
          omega
        omega
      · rw [if_neg p3] at e
        repeat' split at e
        all_goals first | (simp at e; done) | skip
        all_goals simp only [Option.some.injEq, Prod.mk.injEq] at e
        all_goals first | omega | skip
        rename_i h0 h1 h2
        have hq : z.1 = (g.n - 1 - (p - 2 * g.m - g.n)) * g.m - 1 := by omega
        generalize g.n - 1 - (p - 2 * g.m - g.n) = q at hq e
        cases q with
        | zero => simp at e
        | succ q =>
          rw [Nat.succ_mul] at hq
          have e1 : z.1 = q * g.m + (g.m - 1) := by omega
          rw [e1, Gr.mod_of hg (by omega)] at h2
          exact h2 rfl

/-- A beam ends. -/
theorem Gr.beam_ends {p : Nat} (hp : p < g.ports) : ∃ k y, k < 4 * (g.n * g.m) ∧ iter g.nx k (g.ent p) = some y ∧ g.nx y = none :=
  (Gr.steps hg).ends (Gr.ent_val hg hp) fun z hz => Gr.ent_no hg hp z hz
end

/-- f 0 + .. + f (n - 1). -/
def sumN (f : Nat → Nat) : Nat → Nat
  | 0 => 0
  | n + 1 => sumN f n + f n
/-- How many numbers below n are so. -/
def cntN (p : Nat → Bool) (n : Nat) : Nat := sumN (fun c => if p c then 1 else 0) n
theorem cntN_succ (p : Nat → Bool) (n : Nat) : cntN p (n + 1) = cntN p n + if p n then 1 else 0 := rfl
theorem sumN_congr {f g : Nat → Nat} : ∀ {n : Nat}, (∀ i, i < n → f i = g i) → sumN f n = sumN g n := by
  intro n
  induction n with
  | zero => intro _; rfl
  | succ n ih => intro h; rw [sumN, sumN, ih fun i hi => h i (by omega), h n (by omega)]
theorem cntN_congr {p q : Nat → Bool} {n : Nat} (h : ∀ i, i < n → p i = q i) : cntN p n = cntN q n := sumN_congr fun i hi => by rw [h i hi]
theorem sumN_add (f g : Nat → Nat) : ∀ n, sumN (fun i => f i + g i) n = sumN f n + sumN g n := by
  intro n
  induction n with
  | zero => rfl
  | succ n ih => simp only [sumN]; omega
theorem sumN_mul (a : Nat) (f : Nat → Nat) : ∀ n, sumN (fun i => a * f i) n = a * sumN f n := by
  intro n
  induction n with
  | zero => rfl
  | succ n ih => simp only [sumN]; rw [ih, Nat.mul_add]
theorem sumN_zero : ∀ n, sumN (fun _ => 0) n = 0 := by
  intro n
  induction n with
  | zero => rfl
  | succ n ih => simp only [sumN]; omega
theorem sumN_one (f : Nat → Nat) (x : Nat) : ∀ n, x < n → sumN (fun c => if c = x then f c else 0) n = f x := by
  intro n
  induction n with
  | zero => intro h; omega
  | succ n ih =>
    intro h
    simp only [sumN]
    by_cases e : n = x
    · subst e
      have : sumN (fun c => if c = n then f c else 0) n = 0 := by
        rw [sumN_congr (g := fun _ => 0) fun i hi => if_neg (by omega)]
        exact sumN_zero _
      rw [this]; simp
    · rw [ih (by omega), if_neg e, Nat.add_zero]
theorem sumN_le {f g : Nat → Nat} : ∀ {n : Nat}, (∀ i, i < n → f i ≤ g i) → sumN f n ≤ sumN g n := by
  intro n
  induction n with
  | zero => intro _; exact Nat.le_refl _
  | succ n ih => intro h; exact Nat.add_le_add (ih fun i hi => h i (by omega)) (h n (by omega))
theorem sumN_const (a : Nat) : ∀ n, sumN (fun _ => a) n = n * a := by
  intro n
  induction n with
  | zero => simp [sumN]
  | succ n ih => simp only [sumN]; rw [ih, Nat.succ_mul]
theorem sumN_bound {f : Nat → Nat} {a n : Nat} (h : ∀ i, i < n → f i ≤ a) : sumN f n ≤ n * a := by
  rw [← sumN_const]; exact sumN_le h
theorem cntN_le (p : Nat → Bool) (n : Nat) : cntN p n ≤ n := by
  have := sumN_bound (f := fun c => if p c then 1 else 0) (a := 1) (n := n) fun i _ => by split <;> omega
  rw [Nat.mul_one] at this
  exact this
/-- A sum over a list, counted by its elements. -/
theorem sum_count (f : Nat → Nat) (N : Nat) (xs : List Int) (h : ∀ j, j < xs.length → ∃ c : Nat, xs.getD j 0 = c ∧ c < N) :
    ∀ k, k ≤ xs.length → sumN (fun i => f (xs.getD i 0).toNat) k = sumN (fun c => (xs.take k).count (c : Int) * f c) N := by
  intro k
  induction k with
  | zero =>
    intro _
    rw [sumN_congr (g := fun _ => 0) (n := N) fun i _ => by simp, sumN_zero]
    rfl
  | succ k ih =>
    intro hk
    obtain ⟨c, hc, hcN⟩ := h k (by omega)
    have e : xs.take (k + 1) = xs.take k ++ [(c : Int)] := by
      rw [List.take_succ_eq_append_getElem (by omega), ← hc]
      simp [show k < xs.length by omega]
    rw [sumN, ih (by omega), hc, Int.toNat_natCast, ← sumN_one f c N hcN, ← sumN_add]
    refine sumN_congr fun i hi => ?_
    rw [e, List.count_append, List.count_singleton]
    by_cases hi2 : i = c
    · subst hi2; simp [Nat.add_mul]
    · have : ¬ ((c : Int) = (i : Int)) := by omega
      simp [hi2, this]

/-- Place p of xs holds another place, which holds p. -/
def okAt (xs : List Int) (p : Nat) : Bool :=
  inB (xs.getD p 0) 0 ((xs.length : Int) - 1) && !(xs.getD p 0 == (p : Int)) && (xs.getD (xs.getD p 0).toNat 0 == (p : Int))

/-- All places of xs from 0 on to k. -/
def okTo (xs : List Int) (k : Nat) : Prop := ∀ j, j < k → okAt xs j = true

def pairsB (xs : List Int) : Bool := (List.range xs.length).all (okAt xs) && inB xs.length 4 20

theorem pairsB_iff {xs : List Int} : pairsB xs = true ↔ okTo xs xs.length ∧ inB xs.length 4 20 = true := by
  simp [pairsB, okTo]

theorem okTo_zero (xs : List Int) : okTo xs 0 := fun _ h => by omega
theorem okTo_succ {xs : List Int} {k : Nat} (h : okTo xs k) (hk : okAt xs k = true) : okTo xs (k + 1) := by
  intro j hj
  by_cases e : j = k
  · rw [e]; exact hk
  · exact h j (by omega)
theorem pairsB_no {xs : List Int} {k : Nat} (hk : k < xs.length) (h : okAt xs k = false) : pairsB xs = false := by
  cases hp : pairsB xs
  · rfl
  · have := (pairsB_iff.1 hp).1 k hk
    rw [h] at this; cases this
theorem pairsB_end {xs : List Int} (h : okTo xs xs.length) : pairsB xs = inB xs.length 4 20 := by
  have : (List.range xs.length).all (okAt xs) = true := by simpa [okTo] using h
  simp [pairsB, this]

/-- A list without repetition that an involution without fixed places maps into itself has an even length. -/
theorem even_of_invol (σ : Nat → Nat) : ∀ (n : Nat) (l : List Nat), l.length = n → l.Nodup → (∀ x ∈ l, σ x ∈ l ∧ σ x ≠ x ∧ σ (σ x) = x) → n % 2 = 0 := by
  intro n
  induction n using Nat.strongRecOn with
  | _ n ih =>
    intro l hl hd hs
    match l, hl with
    | [], hl => simp at hl; omega
    | a :: t, hl =>
      have ha := hs a (by simp)
      have hat : σ a ∈ t := by
        have := ha.1
        simp only [List.mem_cons] at this
        exact this.resolve_left ha.2.1
      have hdt := List.nodup_cons.1 hd
      have hlen : (t.erase (σ a)).length = t.length - 1 := List.length_erase_of_mem hat
      have hpos : 0 < t.length := List.length_pos_of_mem hat
      simp only [List.length_cons] at hl
      have := ih (n - 2) (by omega) (t.erase (σ a)) (by omega) (hdt.2.erase _) (by
        intro x hx
        have hx' := (List.Nodup.mem_erase_iff hdt.2).1 hx
        have h := hs x (by simp [hx'.2])
        refine ⟨(List.Nodup.mem_erase_iff hdt.2).2 ⟨fun e => ?_, ?_⟩, h.2.1, h.2.2⟩
        · have : x = a := by rw [← h.2.2, e, ha.2.2]
          exact hdt.1 (this ▸ hx'.2)
        · have h1 := h.1
          simp only [List.mem_cons] at h1
          refine h1.resolve_left fun e => hx'.1 ?_
          rw [← h.2.2, e])
      omega

/-- A list all of whose places hold partners has an even length. -/
theorem okTo_even {xs : List Int} (h : okTo xs xs.length) : xs.length % 2 = 0 := by
  refine even_of_invol (fun p => (xs.getD p 0).toNat) xs.length (List.range xs.length) (by simp) List.nodup_range ?_
  intro x hx
  have hx := List.mem_range.1 hx
  have := h x hx
  simp only [okAt, Bool.and_eq_true, inB_iff, Bool.not_eq_true', beq_eq_false_iff_ne, beq_iff_eq] at this
  refine ⟨List.mem_range.2 (by omega), by omega, ?_⟩
  rw [this.2]
  omega

end Go.Proofs.Ytmlenaelijchjaa
