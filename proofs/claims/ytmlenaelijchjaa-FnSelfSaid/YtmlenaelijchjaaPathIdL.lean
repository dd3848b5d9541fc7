/- Numbers of paths tell paths: plain facts. -/
import Derived.Test.YtmlenaelijchjaaPathsL
namespace Go.Proofs.Ytmlenaelijchjaa
set_option linter.unusedVariables false
set_option linter.unusedSimpArgs false
set_option linter.unusedSectionVars false

/-- Two states lie on one path, forwards or backwards. -/
def Gr.Path (g : Gr) (x y : Stt) : Prop := (On g.nx x y ∨ On g.nx y x) ∨ (On g.nx x (g.rev y) ∨ On g.nx (g.rev y) x)
theorem on_total {α : Type} {s : α → Option α} {e x y : α} (hx : On s e x) (hy : On s e y) : On s x y ∨ On s y x := by
  obtain ⟨i, hi⟩ := hx
  obtain ⟨j, hj⟩ := hy
  rcases Nat.le_total i j with h | h
  · refine .inl ⟨j - i, ?_⟩
    rw [show j = i + (j - i) by omega, iter_add, hi] at hj
    exact hj
  · refine .inr ⟨i - j, ?_⟩
    rw [show i = j + (i - j) by omega, iter_add, hj] at hi
    exact hi
section
variable {g : Gr} (hg : g.ok)
include hg
theorem Gr.way_two {p q : Nat} (hp : p < g.ports) (hq : q < g.ports) {x : Stt} (h1 : x ∈ g.wayOf p) (h2 : x ∈ g.wayOf q) : p = q := by
  obtain ⟨i, hi⟩ := (Gr.mem_way hg hp).1 h1
  obtain ⟨j, hj⟩ := (Gr.mem_way hg hq).1 h2
  exact (Gr.way_apart hg hp hq hi hj).1
theorem Gr.way_backs {p : Nat} (hp : p < g.ports) {x : Stt} (hx : x ∈ g.wayOf p) : ∀ k y, g.val y → iter g.nx k y = some x → y ∈ g.wayOf p := by
  intro k
  induction k generalizing x with
  | zero => intro y _ e; cases e; exact hx
  | succ k ih =>
    intro y hy e
    obtain ⟨z, hz, hzx⟩ := iter_pred e
    have hzv := (Gr.rvs hg).steps.iter_stay k y z hy hz
    exact ih ((Gr.way_nx hg hp hzv hzx).1 hx) y hy hz
theorem Gr.way_on {p : Nat} (hp : p < g.ports) {x y : Stt} (hx : x ∈ g.wayOf p) (hy : g.val y) : y ∈ g.wayOf p ↔ (On g.nx x y ∨ On g.nx y x) := by
  constructor
  · intro h
    exact on_total ((Gr.mem_way hg hp).1 hx) ((Gr.mem_way hg hp).1 h)
  · rintro (h | ⟨k, h⟩)
    · exact (Gr.mem_way hg hp).2 (On.trans ((Gr.mem_way hg hp).1 hx) h)
    · exact Gr.way_backs hg hp hx k y hy h
theorem Gr.way_revs {p : Nat} (hp : p < g.ports) {y : Stt} (hy : g.val y) : g.rev y ∈ g.wayOf p ↔ y ∈ g.wayOf (g.endOf p) := by
  obtain ⟨e1, e2, e3⟩ := Gr.endOf_pair hg hp
  constructor
  · intro h
    have := Gr.way_rev1 hg hp h
    rwa [Gr.rev_rev hg hy] at this
  · intro h
    have := Gr.way_rev1 hg e1 h
    rwa [e3] at this
theorem Gr.path_beam {p : Nat} (hp : p < g.ports) {x y : Stt} (hx : x ∈ g.wayOf p) (hy : g.val y) : g.Path x y ↔ y ∈ g.wayOf p ∨ y ∈ g.wayOf (g.endOf p) := by
  unfold Gr.Path
  rw [← Gr.way_on hg hp hx hy, ← Gr.way_on hg hp hx (Gr.rev_val hg hy), Gr.way_revs hg hp hy]
theorem Gr.cyc_back {x y : Stt} (hx : g.val x) (hy : g.val y) (c : Cyc g.nx x) (o : On g.nx y x) : On g.nx x y := by
  have h1 := (Gr.rvs hg).on_back hy o
  have h2 := ((Gr.rvs hg).cyc_r hx c).on h1
  have h3 := (Gr.rvs hg).on_back (Gr.rev_val hg hy) h2.1
  rwa [Gr.rev_rev hg hx, Gr.rev_rev hg hy] at h3
theorem Gr.path_cyc {x y : Stt} (hx : g.val x) (hy : g.val y) (c : Cyc g.nx x) : g.Path x y ↔ Same g.nx g.rev x y := by
  constructor
  · rintro ((h | h) | (h | h))
    · exact .inl h
    · exact .inl (Gr.cyc_back hg hx hy c h)
    · exact .inr h
    · exact .inr (Gr.cyc_back hg hx (Gr.rev_val hg hy) c h)
  · rintro (h | h)
    · exact .inl (.inl h)
    · exact .inr (.inl h)
theorem Gr.same_cyc {x y : Stt} (hx : g.val x) (hy : g.val y) (c : Cyc g.nx x) (h : Same g.nx g.rev x y) : Cyc g.nx y := by
  rcases h with h | h
  · exact (c.on h).2
  · have := (Gr.rvs hg).cyc_r (Gr.rev_val hg hy) (c.on h).2
    rwa [Gr.rev_rev hg hy] at this
theorem Gr.bid_iff {p q : Nat} (hp : p < g.ports) (hq : q < g.ports) : g.bid p = g.bid q ↔ q = p ∨ q = g.endOf p := by
  obtain ⟨a1, a2, a3⟩ := Gr.endOf_pair hg hp
  obtain ⟨b1, b2, b3⟩ := Gr.endOf_pair hg hq
  unfold Gr.bid
  constructor
  · intro h
    have h : min p (g.endOf p) = min q (g.endOf q) := by exact_mod_cast h
    have c1 : min p (g.endOf p) = p ∨ min p (g.endOf p) = g.endOf p := by omega
    have c2 : min q (g.endOf q) = q ∨ min q (g.endOf q) = g.endOf q := by omega
    rcases c1 with c1 | c1 <;> rcases c2 with c2 | c2
    · left; omega
    · right
      have e : p = g.endOf q := by omega
      rw [e, b3]
    · right; omega
    · left
      have e : g.endOf p = g.endOf q := by omega
      rw [← a3, e, b3]
  · rintro (rfl | rfl)
    · rfl
    · rw [a3, Nat.min_comm]
theorem Gr.bid_ports {p : Nat} (hp : p < g.ports) : g.bid p < (g.ports : Int) := by
  unfold Gr.bid
  omega
/-- Whether two numbers are alike. -/
theorem Gr.RoundOk.same {f : Stt → Option Int} (h : g.RoundOk (g.repsTo (4 * (g.n * g.m))) [] f) {x y : Stt} (hx : g.val x) (hy : g.val y) : (∃ i j, f x = some i ∧ f y = some j ∧ 0 ≤ i ∧ 0 ≤ j ∧ i ≤ 1000 ∧ j ≤ 1000 ∧ (i = j ↔ g.Path x y)) := by
  have ht := Gr.reps_trv hg
  have hE := (Gr.rvs hg).eqv
  have hp20 := (Gr.ports_bd hg).2
  have hsz := Gr.size_le hg
  have hbeam : ∀ {x p}, g.val x → p < g.ports → x ∈ g.wayOf p → f x = some (g.bid p) := fun hx hp hw => (h _ hx).1 _ hp hw
  have hb0 : ∀ p, p < g.ports → 0 ≤ g.bid p ∧ g.bid p ≤ 1000 ∧ g.bid p < (g.ports : Int) := fun p hp => by
    have := Gr.bid_ports hg hp
    have : 0 ≤ g.bid p := by unfold Gr.bid; omega
    omega
  have hround : ∀ {x}, g.val x → Cyc g.nx x → ∃ (i : Nat) (hi : i < (g.repsTo (4 * (g.n * g.m))).length), Same g.nx g.rev (g.repsTo (4 * (g.n * g.m)))[i] x ∧ f x = some ((g.ports + i : Nat) : Int) := fun {x} hx c => by
    obtain ⟨r, hr, hs⟩ := ht.some x ⟨hx, c⟩
    obtain ⟨i, hi, rfl⟩ := List.getElem_of_mem hr
    have hs := hE.symm _ _ ⟨hx, c⟩ (ht.all _ hr) hs
    exact ⟨i, hi, hs, (h x hx).2.1 i _ (List.getElem?_eq_getElem hi) hs⟩
  have hlen : (g.repsTo (4 * (g.n * g.m))).length ≤ 100 := by
    unfold Gr.repsTo
    refine Nat.le_trans (List.length_filter_le _ _) ?_
    rw [List.length_map, List.length_range]
    omega
  by_cases hb : ∃ p, p < g.ports ∧ x ∈ g.wayOf p
  · obtain ⟨p, hp, hpx⟩ := hb
    obtain ⟨p1, p2, p3⟩ := hb0 p hp
    by_cases hb2 : ∃ q, q < g.ports ∧ y ∈ g.wayOf q
    · obtain ⟨q, hq, hqy⟩ := hb2
      obtain ⟨q1, q2, q3⟩ := hb0 q hq
      refine ⟨_, _, hbeam hx hp hpx, hbeam hy hq hqy, p1, q1, p2, q2, ?_⟩
      rw [Gr.bid_iff hg hp hq, Gr.path_beam hg hp hpx hy]
      constructor
      · rintro (rfl | rfl)
        · exact .inl hqy
        · exact .inr hqy
      · rintro (h1 | h1)
        · exact .inl (Gr.way_two hg hq hp hqy h1)
        · exact .inr (Gr.way_two hg hq (Gr.endOf_pair hg hp).1 hqy h1)
    · have cy := Gr.free_cyc hg hy fun q hq hqy => hb2 ⟨q, hq, hqy⟩
      obtain ⟨j, hj, _, e⟩ := hround hy cy
      refine ⟨_, _, hbeam hx hp hpx, e, p1, by omega, p2, by omega, ?_⟩
      constructor
      · intro e2; omega
      · rw [Gr.path_beam hg hp hpx hy]
        rintro (h1 | h1)
        · exact absurd ⟨p, hp, h1⟩ hb2
        · exact absurd ⟨_, (Gr.endOf_pair hg hp).1, h1⟩ hb2
  · have cx := Gr.free_cyc hg hx fun q hq hqy => hb ⟨q, hq, hqy⟩
    obtain ⟨i, hi, hsi, e⟩ := hround hx cx
    by_cases hb2 : ∃ q, q < g.ports ∧ y ∈ g.wayOf q
    · obtain ⟨q, hq, hqy⟩ := hb2
      obtain ⟨q1, q2, q3⟩ := hb0 q hq
      refine ⟨_, _, e, hbeam hy hq hqy, by omega, q1, by omega, q2, ?_⟩
      constructor
      · intro e2; omega
      · rw [Gr.path_cyc hg hx hy cx]
        intro hs
        exact absurd (Gr.same_cyc hg hx hy cx hs) (Gr.beam_not_cyc hg hq hqy)
    · have cy := Gr.free_cyc hg hy fun q hq hqy => hb2 ⟨q, hq, hqy⟩
      obtain ⟨j, hj, hsj, e2⟩ := hround hy cy
      refine ⟨_, _, e, e2, by omega, by omega, by omega, by omega, ?_⟩
      have ri := ht.all _ (List.getElem_mem hi)
      have rj := ht.all _ (List.getElem_mem hj)
      rw [Gr.path_cyc hg hx hy cx]
      constructor
      · intro e3
        have : i = j := by omega
        subst this
        exact hE.trans _ _ _ ⟨hx, cx⟩ ri ⟨hy, cy⟩ (hE.symm _ _ ri ⟨hx, cx⟩ hsi) hsj
      · intro hs
        have hij : Same g.nx g.rev (g.repsTo (4 * (g.n * g.m)))[i] (g.repsTo (4 * (g.n * g.m)))[j] :=
          hE.trans _ _ _ ri ⟨hx, cx⟩ rj hsi (hE.trans _ _ _ ⟨hx, cx⟩ ⟨hy, cy⟩ rj hs (hE.symm _ _ rj ⟨hy, cy⟩ hsj))
        have hap := List.pairwise_iff_getElem.1 ht.apart
        rcases Nat.lt_trichotomy i j with h1 | h1 | h1
        · exact absurd hij (hap i j hi hj h1)
        · rw [h1]
        · exact absurd (hE.symm _ _ ri rj hij) (hap j i hj hi h1)
end
end Go.Proofs.Ytmlenaelijchjaa
