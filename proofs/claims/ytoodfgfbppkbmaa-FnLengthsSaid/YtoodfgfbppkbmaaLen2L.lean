/- The lengths of all paths: plain facts. -/
import Derived.Test.YtoodfgfbppkbmaaLenL
namespace Go.Proofs.Ytoodfgfbppkbmaa
set_option linter.unusedVariables false
set_option linter.unusedSimpArgs false
set_option linter.unusedSectionVars false

/-- The lesser ports of beams. -/
noncomputable def Gr.lessP (g : Gr) : List Nat := (List.range g.ports).filter fun p => decide (p < g.endOf p)
theorem twice_len {α : Type} (f : α → List Stt) (r : Stt → Stt) : ∀ l : List α, (l.flatMap fun a => f a ++ (f a).map r).length = 2 * (l.map fun a => (f a).length).sum := by
  intro l
  induction l with
  | nil => rfl
  | cons a l ih =>
    simp only [List.flatMap_cons, List.map_cons, List.sum_cons, List.length_append, List.length_map]
    rw [ih]
    omega
section
variable {g : Gr} (hg : g.ok)
include hg
theorem Gr.lessP_mem {p : Nat} (h : p ∈ g.lessP) : p < g.ports ∧ p < g.endOf p := by
  obtain ⟨h1, h2⟩ := List.mem_filter.1 h
  exact ⟨List.mem_range.1 h1, of_decide_eq_true h2⟩
theorem Gr.way_port {p q : Nat} (hp : p < g.ports) (hq : q < g.ports) {x : Stt} (h1 : x ∈ g.wayOf p) (h2 : x ∈ g.wayOf q) : p = q := by
  obtain ⟨i, hi⟩ := (Gr.mem_way hg hp).1 h1
  obtain ⟨j, hj⟩ := (Gr.mem_way hg hq).1 h2
  exact (Gr.way_apart hg hp hq hi hj).1
theorem Gr.map_rev_ne {l : List Stt} (hv : ∀ x ∈ l, g.val x) (hl : l.Pairwise (· ≠ ·)) : (l.map g.rev).Pairwise (· ≠ ·) := by
  rw [List.pairwise_map]
  refine List.Pairwise.imp_of_mem ?_ hl
  intro y z hy hz hn e
  exact hn (by rw [← Gr.rev_rev hg (hv y hy), e, Gr.rev_rev hg (hv z hz)])
/-- The states on rounds. -/
theorem Gr.ringS : ∃ L : List Stt, L = ((g.repsTo (4 * (g.n * g.m))).flatMap fun r => g.roundOf r ++ (g.roundOf r).map g.rev) ∧ L.Pairwise (· ≠ ·) ∧ (∀ y ∈ L, g.val y ∧ Cyc g.nx y) ∧ ∀ y, g.val y → Cyc g.nx y → y ∈ L := by
  have hR := Gr.rvs hg
  have ht := Gr.reps_trv hg
  have hE := hR.eqv
  have hmem : ∀ r, r ∈ g.repsTo (4 * (g.n * g.m)) → ∀ y, y ∈ g.roundOf r ++ (g.roundOf r).map g.rev → g.val y ∧ Same g.nx g.rev r y ∧ Cyc g.nx y := fun r hr y hy => by
    obtain ⟨vr, cr⟩ := ht.all r hr
    rcases List.mem_append.1 hy with hy | hy
    · obtain ⟨j, e⟩ := (Gr.mem_round hg vr cr).1 hy
      exact ⟨hR.steps.iter_stay j r y vr e, .inl ⟨j, e⟩, (cr.on ⟨j, e⟩).2⟩
    · obtain ⟨z, hz, rfl⟩ := List.mem_map.1 hy
      obtain ⟨j, e⟩ := (Gr.mem_round hg vr cr).1 hz
      have v := hR.steps.iter_stay j r z vr e
      exact ⟨Gr.rev_val hg v, .inr ⟨j, by rw [Gr.rev_rev hg v]; exact e⟩, hR.cyc_r v (cr.on ⟨j, e⟩).2⟩
  refine ⟨_, rfl, List.pairwise_flatMap.2 ⟨fun r hr => ?_, ?_⟩, fun y hy => ?_, fun y vy cy => ?_⟩
  · obtain ⟨vr, cr⟩ := ht.all r hr
    have hnd := List.nodup_iff_pairwise_ne.1 (Gr.round_nodup hg vr cr)
    refine List.pairwise_append.2 ⟨hnd, Gr.map_rev_ne hg (fun x hx => (hmem r hr x (List.mem_append.2 (.inl hx))).1) hnd, fun y hy z' hz' => ?_⟩
    obtain ⟨z, hz, rfl⟩ := List.mem_map.1 hz'
    obtain ⟨i, ei⟩ := (Gr.mem_round hg vr cr).1 hy
    obtain ⟨j, ej⟩ := (Gr.mem_round hg vr cr).1 hz
    intro e
    obtain ⟨k, hk⟩ := On.trans (cr.on ⟨j, ej⟩).1 ⟨i, ei⟩
    rw [e] at hk
    exact Gr.no_turn hg k z (hmem r hr z (List.mem_append.2 (.inl hz))).1 hk
  · refine List.Pairwise.imp_of_mem ?_ ht.apart
    intro r r' hr hr' hn y hy z hz e
    subst e
    obtain ⟨v, s, c⟩ := hmem r hr y hy
    obtain ⟨_, s', _⟩ := hmem r' hr' y hz
    exact hn (hE.trans _ _ _ (ht.all r hr) ⟨v, c⟩ (ht.all r' hr') s (hE.symm _ _ (ht.all r' hr') ⟨v, c⟩ s'))
  · obtain ⟨r, hr, hyr⟩ := List.mem_flatMap.1 hy
    have := hmem r hr y hyr
    exact ⟨this.1, this.2.2⟩
  · obtain ⟨r, hr, hs⟩ := ht.some y ⟨vy, cy⟩
    have hs := hE.symm _ _ ⟨vy, cy⟩ (ht.all r hr) hs
    obtain ⟨vr, cr⟩ := ht.all r hr
    refine List.mem_flatMap.2 ⟨r, hr, List.mem_append.2 ?_⟩
    rcases (Gr.same_iff hg vr cr).1 hs with h | h
    · exact .inl h
    · exact .inr (List.mem_map.2 ⟨_, h, Gr.rev_rev hg vy⟩)
/-- The states on beams. -/
theorem Gr.beamS : ∃ L : List Stt, L = (g.lessP.flatMap fun p => g.wayOf p ++ (g.wayOf p).map g.rev) ∧ L.Pairwise (· ≠ ·) ∧ (∀ y ∈ L, g.val y ∧ ∃ p, p < g.ports ∧ y ∈ g.wayOf p) ∧ ∀ y p, p < g.ports → y ∈ g.wayOf p → y ∈ L := by
  have hmem : ∀ p, p ∈ g.lessP → ∀ y, y ∈ g.wayOf p ++ (g.wayOf p).map g.rev → g.val y ∧ (y ∈ g.wayOf p ∨ y ∈ g.wayOf (g.endOf p)) := fun p hp y hy => by
    have hp' := (Gr.lessP_mem hg hp).1
    rcases List.mem_append.1 hy with hy | hy
    · exact ⟨Gr.way_val hg hp' hy, .inl hy⟩
    · obtain ⟨z, hz, rfl⟩ := List.mem_map.1 hy
      exact ⟨Gr.rev_val hg (Gr.way_val hg hp' hz), .inr (Gr.way_rev1 hg hp' hz)⟩
  refine ⟨_, rfl, List.pairwise_flatMap.2 ⟨fun p hp => ?_, ?_⟩, fun y hy => ?_, fun y p hp hy => ?_⟩
  · obtain ⟨h1, h2⟩ := Gr.lessP_mem hg hp
    have hnd := List.nodup_iff_pairwise_ne.1 (Gr.way_nodup hg h1)
    refine List.pairwise_append.2 ⟨hnd, Gr.map_rev_ne hg (fun x hx => Gr.way_val hg h1 hx) hnd, fun y hy z' hz' => ?_⟩
    obtain ⟨z, hz, rfl⟩ := List.mem_map.1 hz'
    intro e
    have h3 := Gr.way_rev1 hg h1 hz
    rw [← e] at h3
    have := Gr.way_port hg h1 (Gr.endOf_pair hg h1).1 hy h3
    omega
  · refine List.Pairwise.imp_of_mem ?_ ((List.nodup_iff_pairwise_ne.1 List.nodup_range).filter _)
    intro p q hp hq hn y hy z hz e
    subst e
    obtain ⟨h1, h2⟩ := Gr.lessP_mem hg hp
    obtain ⟨h3, h4⟩ := Gr.lessP_mem hg hq
    obtain ⟨e1, e2, e3⟩ := Gr.endOf_pair hg h1
    obtain ⟨f1, f2, f3⟩ := Gr.endOf_pair hg h3
    rcases (hmem p hp y hy).2 with a | a <;> rcases (hmem q hq y hz).2 with b | b
    · exact hn (Gr.way_port hg h1 h3 a b)
    · have := Gr.way_port hg h1 f1 a b
      rw [← this] at f3
      omega
    · have := Gr.way_port hg e1 h3 a b
      rw [this] at e3
      omega
    · have := Gr.way_port hg e1 f1 a b
      rw [this] at e3
      exact hn (by omega)
  · obtain ⟨p, hp, hyp⟩ := List.mem_flatMap.1 hy
    obtain ⟨v, h⟩ := hmem p hp y hyp
    have h1 := (Gr.lessP_mem hg hp).1
    refine ⟨v, ?_⟩
    rcases h with h | h
    · exact ⟨p, h1, h⟩
    · exact ⟨_, (Gr.endOf_pair hg h1).1, h⟩
  · obtain ⟨e1, e2, e3⟩ := Gr.endOf_pair hg hp
    by_cases hlt : p < g.endOf p
    · exact List.mem_flatMap.2 ⟨p, List.mem_filter.2 ⟨List.mem_range.2 hp, decide_eq_true hlt⟩, List.mem_append.2 (.inl hy)⟩
    · refine List.mem_flatMap.2 ⟨g.endOf p, List.mem_filter.2 ⟨List.mem_range.2 e1, decide_eq_true (by rw [e3]; omega)⟩, List.mem_append.2 (.inr (List.mem_map.2 ⟨g.rev y, Gr.way_rev1 hg hp hy, Gr.rev_rev hg (Gr.way_val hg hp hy)⟩))⟩
/-- The lengths of all paths, added. -/
theorem Gr.len_all : ((g.repsTo (4 * (g.n * g.m))).map g.per).sum + (g.lessP.map g.lenOf).sum = 2 * (g.n * g.m) := by
  obtain ⟨L1, e1, p1, v1, c1⟩ := Gr.ringS hg
  obtain ⟨L2, e2, p2, v2, c2⟩ := Gr.beamS hg
  have hl1 : L1.length = 2 * ((g.repsTo (4 * (g.n * g.m))).map g.per).sum := by
    rw [e1, twice_len]
    congr 2
    exact List.map_congr_left fun r _ => Gr.round_length hg r
  have hl2 : L2.length = 2 * (g.lessP.map g.lenOf).sum := by
    rw [e2, twice_len]
    congr 2
    exact List.map_congr_left fun p _ => Gr.wayOf_length hg p
  have hv : ∀ y ∈ L1 ++ L2, g.val y := fun y hy => by
    rcases List.mem_append.1 hy with h | h
    · exact (v1 y h).1
    · exact (v2 y h).1
  have hp : (L1 ++ L2).Pairwise (· ≠ ·) := List.pairwise_append.2 ⟨p1, p2, fun y hy z hz e => by
    subst e
    obtain ⟨_, p, hp, hw⟩ := v2 y hz
    exact Gr.beam_not_cyc hg hp hw (v1 y hy).2⟩
  have hc : ∀ y, g.val y → y ∈ L1 ++ L2 := fun y vy => by
    by_cases h : ∃ p, p < g.ports ∧ y ∈ g.wayOf p
    · obtain ⟨p, hp, hw⟩ := h
      exact List.mem_append.2 (.inr (c2 y p hp hw))
    · exact List.mem_append.2 (.inl (c1 y vy (Gr.free_cyc hg vy fun p hp hw => h ⟨p, hp, hw⟩)))
  have k1 : (L1 ++ L2).length ≤ (List.range (4 * (g.n * g.m))).length := by
    refine inj_len (fun x c => codeS x = c) _ _ (fun x hx => ⟨_, List.mem_range.2 (Gr.code_lt hg (hv x hx)), rfl⟩) ?_
    refine List.Pairwise.imp_of_mem ?_ hp
    intro x y hx hy hn c _ h1 h2
    exact hn (by rw [← dec_code (hv x hx).2, h1, ← h2, dec_code (hv y hy).2])
  have k2 : (List.range (4 * (g.n * g.m))).length ≤ (L1 ++ L2).length := by
    refine inj_len (fun c x => codeS x = c) _ _ (fun c hc0 => ⟨decS c, hc _ (Gr.dec_val hg (List.mem_range.1 hc0)), by unfold codeS decS; omega⟩) ?_
    refine List.Pairwise.imp ?_ (List.pairwise_lt_range (n := 4 * (g.n * g.m)))
    intro c d hlt x _ h1 h2
    omega
  rw [List.length_range, List.length_append, hl1, hl2] at k1 k2
  omega
end
end Go.Proofs.Ytoodfgfbppkbmaa
