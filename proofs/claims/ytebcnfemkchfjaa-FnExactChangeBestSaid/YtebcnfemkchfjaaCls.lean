/- How many classes there are: plain facts. -/
import Derived.Test.YtebcnfemkchfjaaSmall
namespace Go.Proofs.Ytebcnfemkchfjaa
set_option linter.unusedVariables false
set_option linter.unusedSimpArgs false

/-- t has one element of each class of the things of the kind P. -/
structure Trv {α : Type} (P : α → Prop) (R : α → α → Prop) (t : List α) : Prop where
  all : ∀ x ∈ t, P x
  apart : t.Pairwise fun x y => ¬ R x y
  some : ∀ x, P x → ∃ y ∈ t, R x y
/-- There are n classes. -/
def Num {α : Type} (P : α → Prop) (R : α → α → Prop) (n : Nat) : Prop := ∃ t, Trv P R t ∧ t.length = n
structure Eqv {α : Type} (P : α → Prop) (R : α → α → Prop) : Prop where
  refl : ∀ x, P x → R x x
  symm : ∀ x y, P x → P y → R x y → R y x
  trans : ∀ x y z, P x → P y → P z → R x y → R y z → R x z

theorem inj_len {α β : Type} (F : α → β → Prop) : ∀ (l : List α) (t : List β), (∀ x ∈ l, ∃ y ∈ t, F x y) → (l.Pairwise fun x x' => ∀ y ∈ t, F x y → ¬ F x' y) → l.length ≤ t.length := by
  intro l
  induction l with
  | nil => intro t _ _; exact Nat.zero_le _
  | cons a l ih =>
    intro t h hp
    obtain ⟨y, hy, hay⟩ := h a (by simp)
    have hp2 := List.pairwise_cons.1 hp
    obtain ⟨t1, t2, rfl⟩ := List.append_of_mem hy
    have := ih (t1 ++ t2) (fun x hx => by
      obtain ⟨y', hy', hxy⟩ := h x (by simp [hx])
      refine ⟨y', ?_, hxy⟩
      rcases List.mem_append.1 hy' with h1 | h1
      · exact List.mem_append.2 (.inl h1)
      · rcases List.mem_cons.1 h1 with rfl | h1
        · exact absurd hxy (hp2.1 x hx _ hy hay)
        · exact List.mem_append.2 (.inr h1)) (hp2.2.imp fun {u v} huv y' hy' => huv y' (by
          rcases List.mem_append.1 hy' with h1 | h1
          · exact List.mem_append.2 (.inl h1)
          · exact List.mem_append.2 (.inr (List.mem_cons_of_mem _ h1))))
    simp only [List.length_append, List.length_cons] at this ⊢
    omega

theorem Trv.le {α β : Type} {P : α → Prop} {R : α → α → Prop} {P' : β → Prop} {R' : β → β → Prop} (hE : Eqv P' R') {t : List α} {t' : List β} (h : Trv P R t) (h' : Trv P' R' t') (F : α → β → Prop)
    (to : ∀ x, P x → ∃ y, P' y ∧ F x y) (sep : ∀ x x' y y', P x → P x' → P' y → P' y' → F x y → F x' y' → R' y y' → R x x') : t.length ≤ t'.length := by
  refine inj_len (fun x y => ∃ z, P' z ∧ F x z ∧ R' z y) t t' (fun x hx => ?_) ?_
  · obtain ⟨z, hz, hxz⟩ := to x (h.all x hx)
    obtain ⟨y, hy, hzy⟩ := h'.some z hz
    exact ⟨y, hy, z, hz, hxz, hzy⟩
  · refine List.Pairwise.imp_of_mem ?_ h.apart
    rintro x x' hx hx' hn y hy ⟨z, hz, hxz, hzy⟩ ⟨z', hz', hxz', hzy'⟩
    have hPy := h'.all y hy
    exact hn (sep x x' z z' (h.all x hx) (h.all x' hx') hz hz' hxz hxz' (hE.trans z y z' hz hPy hz' hzy (hE.symm z' y hz' hPy hzy')))
theorem Num.eq {α β : Type} {P : α → Prop} {R : α → α → Prop} {P' : β → Prop} {R' : β → β → Prop} (hE : Eqv P R) (hE' : Eqv P' R') {n n' : Nat} (h : Num P R n) (h' : Num P' R' n') (F : α → β → Prop)
    (to : ∀ x, P x → ∃ y, P' y ∧ F x y) (fr : ∀ y, P' y → ∃ x, P x ∧ F x y) (same : ∀ x x' y y', P x → P x' → P' y → P' y' → F x y → F x' y' → (R' y y' ↔ R x x')) : n = n' := by
  obtain ⟨t, ht, rfl⟩ := h
  obtain ⟨t', ht', rfl⟩ := h'
  have h1 := ht.le hE' ht' F to fun x x' y y' a b c d e f g => (same x x' y y' a b c d e f).1 g
  have h2 := ht'.le hE ht (fun y x => F x y) fr fun y y' x x' a b c d e f g => (same x x' y y' c d a b e f).2 g
  omega
theorem Num.unique {α : Type} {P : α → Prop} {R : α → α → Prop} (hE : Eqv P R) {n n' : Nat} (h : Num P R n) (h' : Num P R n') : n = n' :=
  h.eq hE hE h' Eq (fun x hx => ⟨x, hx, rfl⟩) (fun x hx => ⟨x, hx, rfl⟩) (by rintro x x' _ _ _ _ _ _ rfl rfl; exact Iff.rfl)
/-- The same kinds, the same classes. -/
theorem Num.congr {α : Type} {P P' : α → Prop} {R R' : α → α → Prop} {n : Nat} (h : Num P R n) (hp : ∀ x, P x ↔ P' x) (hr : ∀ x y, P x → P y → (R x y ↔ R' x y)) : Num P' R' n := by
  obtain ⟨t, ht, rfl⟩ := h
  refine ⟨t, ⟨fun x hx => (hp x).1 (ht.all x hx), ?_, fun x hx => ?_⟩, rfl⟩
  · refine List.Pairwise.imp_of_mem ?_ ht.apart
    intro a b ha hb hn hab
    exact hn ((hr a b (ht.all a ha) (ht.all b hb)).2 hab)
  · obtain ⟨y, hy, hxy⟩ := ht.some x ((hp x).2 hx)
    exact ⟨y, hy, (hr x y ((hp x).2 hx) (ht.all y hy)).1 hxy⟩
/-- Two kinds that have no class together. -/
theorem Num.add {α : Type} {P Q : α → Prop} {R : α → α → Prop} {n k : Nat} (h : Num (fun x => P x ∧ Q x) R n) (h' : Num (fun x => P x ∧ ¬ Q x) R k) (hq : ∀ x y, P x → P y → R x y → (Q x ↔ Q y)) : Num P R (n + k) := by
  obtain ⟨t, ht, rfl⟩ := h
  obtain ⟨t', ht', rfl⟩ := h'
  refine ⟨t ++ t', ⟨fun x hx => ?_, List.pairwise_append.2 ⟨ht.apart, ht'.apart, fun x hx y hy hxy => ?_⟩, fun x hx => ?_⟩, by simp⟩
  · rcases List.mem_append.1 hx with hx | hx
    · exact (ht.all x hx).1
    · exact (ht'.all x hx).1
  · exact (ht'.all y hy).2 ((hq x y (ht.all x hx).1 (ht'.all y hy).1 hxy).1 (ht.all x hx).2)
  · by_cases q : Q x
    · obtain ⟨y, hy, hxy⟩ := ht.some x ⟨hx, q⟩
      exact ⟨y, List.mem_append.2 (.inl hy), hxy⟩
    · obtain ⟨y, hy, hxy⟩ := ht'.some x ⟨hx, q⟩
      exact ⟨y, List.mem_append.2 (.inr hy), hxy⟩
/-- Finitely many things have some number of classes. -/
theorem Num.any {α : Type} {P : α → Prop} {R : α → α → Prop} (hE : Eqv P R) (L : List α) (hL : ∀ x, P x → x ∈ L) : ∃ n, Num P R n := by
  have key : ∀ l : List α, ∃ t : List α, (∀ x ∈ t, P x) ∧ (t.Pairwise fun x y => ¬ R x y) ∧ ∀ x ∈ l, P x → ∃ y ∈ t, R x y := by
    intro l
    induction l with
    | nil => exact ⟨[], by simp, List.Pairwise.nil, by simp⟩
    | cons a l ih =>
      obtain ⟨t, h1, h2, h3⟩ := ih
      by_cases ha : P a ∧ ∀ y ∈ t, ¬ R a y
      · refine ⟨a :: t, fun x hx => ?_, List.pairwise_cons.2 ⟨ha.2, h2⟩, fun x hx hp => ?_⟩
        · rcases List.mem_cons.1 hx with rfl | hx
          · exact ha.1
          · exact h1 x hx
        · rcases List.mem_cons.1 hx with rfl | hx
          · exact ⟨_, List.mem_cons_self, hE.refl _ hp⟩
          · obtain ⟨y, hy, hxy⟩ := h3 x hx hp
            exact ⟨y, List.mem_cons_of_mem _ hy, hxy⟩
      · refine ⟨t, h1, h2, fun x hx hp => ?_⟩
        rcases List.mem_cons.1 hx with rfl | hx
        · apply Classical.byContradiction
          intro hn
          exact ha ⟨hp, fun y hy hxy => hn ⟨y, hy, hxy⟩⟩
        · exact h3 x hx hp
  obtain ⟨t, h1, h2, h3⟩ := key L
  exact ⟨t.length, t, ⟨h1, h2, fun x hx => h3 x (hL x hx) hx⟩, rfl⟩
theorem Num.none {α : Type} {P : α → Prop} {R : α → α → Prop} (h : ∀ x, ¬ P x) : Num P R 0 := ⟨[], ⟨by simp, List.Pairwise.nil, fun x hx => absurd hx (h x)⟩, rfl⟩
/-- A part of the classes. -/
theorem Num.part {α : Type} {P Q : α → Prop} {R : α → α → Prop} {n : Nat} (hE : Eqv P R) (h : Num P R n) (hq : ∀ x y, P x → P y → R x y → (Q x ↔ Q y)) : ∃ a b, n = a + b ∧ Num (fun x => P x ∧ Q x) R a ∧ Num (fun x => P x ∧ ¬ Q x) R b := by
  obtain ⟨t, ht, rfl⟩ := h
  have key : ∀ (Q : α → Prop), (∀ x y, P x → P y → R x y → (Q x ↔ Q y)) → ∀ l : List α, (∀ x ∈ l, P x) → (l.Pairwise fun x y => ¬ R x y) → (∀ x, P x → ∃ y ∈ t, R x y) → (∀ y ∈ t, Q y → y ∈ l) → (∀ y ∈ l, Q y) → Trv (fun x => P x ∧ Q x) R l := by
    intro Q hq l h1 h2 h3 h4 h5
    refine ⟨fun x hx => ⟨h1 x hx, h5 x hx⟩, h2, fun x hx => ?_⟩
    obtain ⟨y, hy, hxy⟩ := h3 x hx.1
    exact ⟨y, h4 y hy ((hq x y hx.1 (ht.all y hy) hxy).1 hx.2), hxy⟩
  have dec : DecidablePred Q := fun x => Classical.propDecidable (Q x)
  refine ⟨(t.filter Q).length, (t.filter fun x => ! Q x).length, ?_, ⟨_, key Q hq _ ?_ ?_ ht.some ?_ ?_, rfl⟩, ⟨_, key (fun x => ¬ Q x) (fun x y a b c => not_congr (hq x y a b c)) _ ?_ ?_ ht.some ?_ ?_, rfl⟩⟩
  · clear ht key
    induction t with
    | nil => rfl
    | cons a t ih =>
      by_cases q : Q a
      · simp [q]; omega
      · simp [q]; omega
  · intro x hx; exact ht.all x (List.mem_filter.1 hx).1
  · exact List.Pairwise.filter _ ht.apart
  · intro y hy q; exact List.mem_filter.2 ⟨hy, by simp [q]⟩
  · intro y hy; simpa using (List.mem_filter.1 hy).2
  · intro x hx; exact ht.all x (List.mem_filter.1 hx).1
  · exact List.Pairwise.filter _ ht.apart
  · intro y hy q; exact List.mem_filter.2 ⟨hy, by simp [q]⟩
  · intro y hy; simpa using (List.mem_filter.1 hy).2
end Go.Proofs.Ytebcnfemkchfjaa
