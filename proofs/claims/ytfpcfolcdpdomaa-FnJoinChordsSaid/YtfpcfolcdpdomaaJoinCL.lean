/- How many rounds joined and closed pairings make: plain facts. -/
import Derived.Test.YtfpcfolcdpdomaaGIsoL
namespace Go.Proofs.Ytfpcfolcdpdomaa
set_option linter.unusedVariables false
set_option linter.unusedSimpArgs false
set_option linter.unusedSectionVars false

section
variable {n m N : Nat} {nx : Nat → Nat} (h : Glue N nx (mtR n m N)) (hmn : m + 2 * n ≤ N)
include h hmn
/-- Each round goes through the right end of a row. -/
theorem right_reps : ∃ t : List Nat, t.length = grounds N nx (mtR n m N) ∧ (∀ x ∈ t, Cyc (gs nx (mtR n m N)) x ∧ m ≤ x ∧ x < m + n) ∧ t.Pairwise fun x y => ¬ Same (gs nx (mtR n m N)) nx x y := by
  obtain ⟨t, ht, hl⟩ := h.num
  have key : ∀ x, x < N → Cyc (gs nx (mtR n m N)) x → Same (gs nx (mtR n m N)) nx x (m + rhoR n m N x) ∧ rhoR n m N x < n := fun x hx c => by
    obtain ⟨z, hz⟩ := h.cyc_mt c
    have h1 := (rhoR_mem hmn hz).1
    exact ⟨(row_same h hmn hx c h1).2 ⟨0, x, (perS_spec c).1, rfl, rfl⟩, h1⟩
  have hcy : ∀ x, x < N → Cyc (gs nx (mtR n m N)) x → Cyc (gs nx (mtR n m N)) (m + rhoR n m N x) := fun x hx c =>
    h.rv.same_cyc hx (by have := (key x hx c).2; show m + rhoR n m N x < N; omega) c (key x hx c).1
  refine ⟨t.map fun x => m + rhoR n m N x, by rw [List.length_map, hl], fun y hy => ?_, ?_⟩
  · obtain ⟨x, hx, rfl⟩ := List.mem_map.1 hy
    have h1 := ht.all x hx
    have h2 := (key x h1.1 h1.2).2
    exact ⟨hcy x h1.1 h1.2, by omega, by omega⟩
  · rw [List.pairwise_map]
    refine List.Pairwise.imp_of_mem ?_ ht.apart
    intro x y hx hy hn hs
    have h1 := ht.all x hx
    have h2 := ht.all y hy
    have k1 := key x h1.1 h1.2
    have k2 := key y h2.1 h2.2
    have v1 : m + rhoR n m N x < N := by omega
    have v2 : m + rhoR n m N y < N := by omega
    have hE := h.rv.eqv
    refine hn (hE.trans _ _ _ h1 ⟨v1, hcy x h1.1 h1.2⟩ h2 k1.1 (hE.trans _ _ _ ⟨v1, hcy x h1.1 h1.2⟩ ⟨v2, hcy y h2.1 h2.2⟩ h2 hs (hE.symm _ _ h2 ⟨v2, hcy y h2.1 h2.2⟩ k2.1)))
theorem grounds_le : grounds N nx (mtR n m N) ≤ n := by
  obtain ⟨t, hl, h1, h2⟩ := right_reps h hmn
  rw [← hl, ← List.length_range (n := n)]
  refine inj_len (fun x e => x = m + e) t (List.range n) (fun x hx => ?_) ?_
  · have h3 := (h1 x hx).2
    exact ⟨x - m, List.mem_range.2 (by omega), by omega⟩
  · refine h2.imp ?_
    rintro x y hn e _ rfl hy
    exact hn (by rw [hy]; exact .inl (On.refl _ _))
/-- Where a pairing of its own holds the right ends, each round goes through two of them. -/
theorem grounds_two (hP : ∀ x, m ≤ x → x < m + n → ∀ z, mtR n m N (nx x) = some z → m ≤ nx x ∧ nx x < m + n) : 2 * grounds N nx (mtR n m N) ≤ n := by
  obtain ⟨t, hl, h1, h2⟩ := right_reps h hmn
  have hN : ∀ x ∈ t, x < N := fun x hx => by have := (h1 x hx).2; omega
  have hr : ∀ x ∈ t, m ≤ nx x ∧ nx x < m + n := fun x hx => by
    obtain ⟨c, a, b⟩ := h1 x hx
    obtain ⟨z, hz⟩ := cyc_next c
    exact hP x a b z hz
  have : (t ++ t.map nx).length ≤ (List.range n).length := by
    refine inj_len (fun x e => x = m + e) _ (List.range n) (fun x hx => ?_) ?_
    · rcases List.mem_append.1 hx with hx | hx
      · have h3 := (h1 x hx).2
        exact ⟨x - m, List.mem_range.2 (by omega), by omega⟩
      · obtain ⟨y, hy, rfl⟩ := List.mem_map.1 hx
        have h3 := hr y hy
        exact ⟨nx y - m, List.mem_range.2 (by omega), by omega⟩
    · refine List.pairwise_append.2 ⟨h2.imp ?_, ?_, ?_⟩
      · rintro x y hn e _ rfl hy
        exact hn (by rw [hy]; exact .inl (On.refl _ _))
      · rw [List.pairwise_map]
        refine List.Pairwise.imp_of_mem ?_ h2
        intro x y hx hy hn e _ e1 e2
        refine hn ?_
        have e3 : nx x = nx y := by rw [e1, e2]
        have e4 : x = y := by rw [← h.nx_nx x (hN x hx), e3, h.nx_nx y (hN y hy)]
        rw [e4]
        exact .inl (On.refl _ _)
      · intro x hx y' hy' e _ e1 e2
        obtain ⟨y, hy, rfl⟩ := List.mem_map.1 hy'
        have e3 : x = nx y := by rw [e1, e2]
        by_cases exy : x = y
        · exact h.nx_ne y (hN y hy) (by rw [← e3, exy])
        · have hs : Same (gs nx (mtR n m N)) nx y x := .inr (by rw [e3, h.nx_nx y (hN y hy)]; exact On.refl _ _)
          have hs2 : Same (gs nx (mtR n m N)) nx x y := .inr (by rw [← e3]; exact On.refl _ _)
          have hsy : ∀ l : List Nat, (l.Pairwise fun x y => ¬ Same (gs nx (mtR n m N)) nx x y) → x ∈ l → y ∈ l → False := by
            intro l
            induction l with
            | nil => intro _ hm _; cases hm
            | cons a l ih =>
              intro hl hx hy
              obtain ⟨p1, p2⟩ := List.pairwise_cons.1 hl
              rcases List.mem_cons.1 hx with rfl | hx'
              · rcases List.mem_cons.1 hy with hyx | hy'
                · exact exy hyx.symm
                · exact p1 y hy' hs2
              · rcases List.mem_cons.1 hy with rfl | hy'
                · exact p1 x hx' hs
                · exact ih p2 hx' hy'
          exact hsy t h2 hx hy
  rw [List.length_append, List.length_map, List.length_range, hl] at this
  omega
end
theorem joinN_two {n m k : Nat} {xs ys : List Int} (hT : Two n m k) (lx : xs.length = 2 * n + 2 * m) (ly : ys.length = 2 * n + 2 * k) (px : pairsB xs = true) (py : pairsB ys = true) : 2 * joinN n m k xs ys ≤ n := by
  have h := join_glue2 hT lx ly px py
  refine grounds_two h (by omega) fun x h1 h2 z hz => ?_
  have h3 := (cnx_get px (x := x) (by omega)).2.1
  have e : jnx xs ys x = cnx xs x := by unfold jnx; rw [if_pos (by omega)]
  rw [e] at hz ⊢
  unfold mtR at hz
  split at hz
  · assumption
  · split at hz
    · omega
    · cases hz
/-- Closed pairings flipped. -/
def chkM (n m p : Nat) : Bool := mtR n m (2 * n + 2 * m) (jflipF n m (2 * n + 2 * m) p) == (mtR n m (2 * n + 2 * m) p).map (jflipF n m (2 * n + 2 * m))
theorem chkM_all : ∀ n ∈ [1, 2, 3, 4, 5], ∀ m ∈ [1, 2, 3, 4, 5], ∀ p ∈ List.range (2 * n + 2 * m), chkM n m p = true := by decide +kernel
theorem close_unit : ∀ n ∈ [1, 2, 3, 4, 5], ∀ m ∈ [1, 2, 3, 4, 5], closeN n m (unitL n m) = n ∧ ofB n m (unitL n m) = true := by decide +kernel
theorem close_facts {n m : Nat} {xs : List Int} (h : ofB n m xs = true) : closeN n m (jflipL n m xs) = closeN n m xs ∧ closeN n m xs ≤ n ∧ closeN n m (unitL n m) = n ∧ ofB n m (unitL n m) = true := by
  obtain ⟨a1, a2, a3, a4, a5, a6⟩ := ofB_iff.1 h
  have hl : xs.length = 2 * n + 2 * m := by omega
  have hn : n ∈ [1, 2, 3, 4, 5] := by simp; omega
  have hm : m ∈ [1, 2, 3, 4, 5] := by simp; omega
  obtain ⟨f1, f2, _⟩ := cnx_flip h hl (p := 0) (by omega)
  have g1 := close_glue (n := n) (m := m) hl a6
  have g2 := close_glue (n := n) (m := m) f1 f2
  unfold closeN at *
  rw [hl] at g1 ⊢
  rw [f1] at g2 ⊢
  refine ⟨?_, grounds_le g1 (by omega), ?_, (close_unit n hn m hm).2⟩
  · have hr := ren_flip (n := n) (m := m) (N := 2 * n + 2 * m) (by omega) (by omega) rfl
    refine GIso.rounds g1 g2 (φ := jflipF n m (2 * n + 2 * m)) (ψ := jflipF n m (2 * n + 2 * m)) ⟨hr.to, hr.to, hr.gf, hr.fg, fun x hx => (cnx_flip h hl hx).2.2.2, fun x hx => ?_⟩
    have := chkM_all n hn m hm x (List.mem_range.2 hx)
    exact beq_iff_eq.1 this
  · exact (close_unit n hn m hm).1
end Go.Proofs.Ytfpcfolcdpdomaa
