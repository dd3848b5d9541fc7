/- Pairings that are glued: what the loops mark and count: plain facts. -/
import Derived.Test.YtoodfgfbppkbmaaGlueL
import Derived.Test.YtoodfgfbppkbmaaRounds3W
import Derived.Test.YtoodfgfbppkbmaaFill
import Derived.Test.YtoodfgfbppkbmaaOfW
namespace Go.Proofs.Ytoodfgfbppkbmaa
set_option linter.unusedVariables false
set_option linter.unusedSimpArgs false
set_option linter.unusedSectionVars false

theorem fillN_set (f : Nat → Int) (N k : Nat) (v : Int) : (fillN f N).set k v = fillN (fun x => if x = k then v else f x) N := by
  apply List.ext_getElem
  · simp [fillN]
  · intro i h1 h2
    rw [List.getElem_set]
    simp only [fillN, List.getElem_map, List.getElem_range]
    by_cases e : k = i
    · rw [if_pos e, if_pos e.symm]
    · rw [if_neg e, if_neg (fun h => e h.symm)]
theorem fillN_snoc (f : Nat → Int) (N : Nat) (v : Int) (h : f N = v) : fillN f N ++ [v] = fillN f (N + 1) := by simp [fillN, List.range_succ, h]
theorem fillN_congr {f g : Nat → Int} {N : Nat} (h : ∀ x, x < N → f x = g x) : fillN f N = fillN g N := List.map_congr_left fun x hx => h x (List.mem_range.1 hx)
theorem fillN_const (N : Nat) (v : Int) : fillN (fun _ => v) N = List.replicate N v := by
  apply List.ext_getElem
  · simp [fillN]
  · intro i h1 h2; simp [fillN]
theorem SI_blk {w : World} {base : Nat} {v : Value} {xs : List Int} (h : (SI v xs).own w base) (h1 : 1 ≤ xs.length) : ∃ g cap, v = .slice (some ⟨g, 0, none⟩) xs.length cap := by
  rcases h.2 with ⟨hv, hn⟩ | ⟨g, cap, cur, hv, _⟩
  · have h0 : xs.length = 0 := hn
    omega
  · exact ⟨g, cap, hv⟩

/-- The right end of each row is glued to the left end. -/
def mtR (n m N x : Nat) : Option Nat := if m ≤ x ∧ x < m + n then some (N - 1 - (x - m)) else if N - n ≤ x ∧ x < N then some (m + (N - 1 - x)) else none
def mtI (mt : Nat → Option Nat) (x : Nat) : Int := match mt x with | none => -1 | some y => (y : Int)
def mtTo (m N i x : Nat) : Int := if m ≤ x ∧ x < m + i then ((N - 1 - (x - m) : Nat) : Int) else if N - i ≤ x ∧ x < N then ((m + (N - 1 - x) : Nat) : Int) else -1
theorem mtTo_zero (m N : Nat) : fillN (mtTo m N 0) N = fillN (fun _ => -1) N := fillN_congr fun x hx => by
  unfold mtTo
  rw [if_neg (by omega), if_neg (by omega)]
theorem mtTo_step {n m N i : Nat} (h : m + 2 * n ≤ N) (hi : i < n) : ((fillN (mtTo m N i) N).set (m + i) ((N - 1 - i : Nat) : Int)).set (N - 1 - i) ((m + i : Nat) : Int) = fillN (mtTo m N (i + 1)) N := by
  rw [fillN_set, fillN_set]
  refine fillN_congr fun x hx => ?_
  unfold mtTo
  repeat' split
  all_goals omega
theorem mtTo_all (n m N x : Nat) : mtTo m N n x = mtI (mtR n m N) x := by
  unfold mtTo mtI mtR
  split
  · rename_i h; rfl
  · split
    · rfl
    · rfl
theorem mtI_none {mt : Nat → Option Nat} {x : Nat} (h : mt x = none) : mtI mt x = -1 := by unfold mtI; rw [h]
theorem mtI_some {mt : Nat → Option Nat} {x y : Nat} (h : mt x = some y) : mtI mt x = (y : Int) := by unfold mtI; rw [h]
theorem mtR_lt {n m N x y : Nat} (h : m + 2 * n ≤ N) (e : mtR n m N x = some y) : x < N ∧ y < N ∧ y ≠ x ∧ mtR n m N y = some x := by
  unfold mtR at e
  split at e
  · cases e
    refine ⟨by omega, by omega, by omega, ?_⟩
    unfold mtR
    rw [if_neg (by omega), if_pos (by omega)]
    congr 1
    omega
  · split at e
    · cases e
      refine ⟨by omega, by omega, by omega, ?_⟩
      unfold mtR
      rw [if_pos (by omega)]
      congr 1
      omega
    · cases e

section
variable {N : Nat} {nx : Nat → Nat} {mt : Nat → Option Nat} (h : Glue N nx mt)
include h
/-- What is marked inside the way of the outer port i. -/
def GlueBi (N : Nat) (nx : Nat → Nat) (mt : Nat → Option Nat) (i t : Nat) (M : Nat → Bool) : Prop :=
  GlueB N nx mt i M ∧ ∀ u y, 0 < u → u ≤ t → iter (gs nx mt) u i = some y → M y = true
theorem GlueBi.next {i t y z : Nat} {M : Nat → Bool} (hb : GlueBi N nx mt i t M) (hi : i < N) (ho : mt i = none) (hy : iter (gs nx mt) t i = some y) (hz : mt (nx y) = some z) : GlueBi N nx mt i (t + 1) (updB (updB M (nx y)) z) := by
  obtain ⟨K, e, hK, he, hn⟩ := h.outer_ends hi ho
  have hyv := h.rv.steps.iter_stay t i y hi hy
  have hz2 : iter (gs nx mt) (t + 1) i = some z := by
    show (iter (gs nx mt) t i).bind (gs nx mt) = _
    rw [hy]; exact hz
  have hle : t + 1 ≤ K := by
    apply Nat.le_of_not_lt
    intro hlt
    obtain ⟨u, hu⟩ := iter_lt hz2 (K + 1) (by omega)
    obtain ⟨u', hu', hu2⟩ := iter_pred hu
    rw [he] at hu'
    cases hu'
    rw [hn] at hu2
    cases hu2
  have c1 : ¬ Cyc (gs nx mt) y := h.way_not_cyc he hn (by omega) hy
  have c2 : ¬ Cyc (gs nx mt) z := h.way_not_cyc he hn hle hz2
  have c3 : ¬ Cyc (gs nx mt) (nx y) := fun c => c1 ((h.rv.cyc_r' hyv).1 c)
  refine ⟨⟨fun x hx hm => ?_, fun q hq hqN hqo u x hu hux => ?_⟩, fun u x hu hut hux => ?_⟩
  · simp only [updB, Bool.or_eq_true, beq_iff_eq] at hm
    rcases hm with rfl | rfl | hm
    · exact c2
    · exact c3
    · exact hb.1.1 x hx hm
  · simp only [updB, Bool.or_eq_true]
    exact .inr (.inr (hb.1.2 q hq hqN hqo u x hu hux))
  · simp only [updB, Bool.or_eq_true, beq_iff_eq]
    by_cases e1 : u = t + 1
    · subst e1
      rw [hz2] at hux
      exact .inl (Option.some.inj hux).symm
    · exact .inr (.inr (hb.2 u x hu (by omega) hux))
omit h in
theorem GlueBi.start {i : Nat} {M : Nat → Bool} (hb : GlueB N nx mt i M) : GlueBi N nx mt i 0 M := ⟨hb, fun u y hu hu2 => by omega⟩
theorem GlueBi.done {i t y : Nat} {M : Nat → Bool} (hb : GlueBi N nx mt i t M) (hy : iter (gs nx mt) t i = some y) (hz : mt (nx y) = none) : GlueB N nx mt (i + 1) M := by
  refine ⟨hb.1.1, fun q hq hqN hqo u x hu hux => ?_⟩
  by_cases e : q = i
  · subst e
    refine hb.2 u x hu ?_ hux
    apply Nat.le_of_not_lt
    intro hlt
    obtain ⟨v, hv⟩ := iter_lt hux (t + 1) (by omega)
    obtain ⟨v', hv', hv2⟩ := iter_pred hv
    rw [hy] at hv'
    cases hv'
    have : mt (nx y) = some v := hv2
    rw [hz] at this
    cases this
  · exact hb.1.2 q (by omega) hqN hqo u x hu hux
omit h in
theorem GlueB.skip {i z : Nat} {M : Nat → Bool} (hb : GlueB N nx mt i M) (hz : mt i = some z) : GlueB N nx mt (i + 1) M := by
  refine ⟨hb.1, fun q hq hqN hqo => ?_⟩
  by_cases e : q = i
  · subst e
    rw [hz] at hqo
    cases hqo
  · exact hb.2 q (by omega) hqN hqo

/-- What is marked when the rounds of the states below k are counted. -/
def GlueR (N : Nat) (nx : Nat → Nat) (mt : Nat → Option Nat) (k : Nat) (M : Nat → Bool) : Prop :=
  ∀ x z, mt x = some z → (M x = true ↔ ¬ Cyc (gs nx mt) x ∨ SeenL (gs nx mt) nx id k x)
def GlueRi (N : Nat) (nx : Nat → Nat) (mt : Nat → Option Nat) (k t : Nat) (M : Nat → Bool) : Prop :=
  ∀ x z, mt x = some z → (M x = true ↔ (¬ Cyc (gs nx mt) x ∨ SeenL (gs nx mt) nx id k x) ∨ ∃ u, u < t ∧ (iter (gs nx mt) u k = some x ∨ iter (gs nx mt) u k = some (nx x)))
theorem GlueR.zero {M : Nat → Bool} (hb : GlueB N nx mt N M) : GlueR N nx mt 0 M := fun x z hz => by
  rw [GlueB.all h hb (h.mt_lt _ _ hz).1 hz]
  exact ⟨.inl, fun hh => hh.resolve_right SeenL.zero⟩
omit h in
theorem GlueRi.start {k : Nat} {M : Nat → Bool} (hr : GlueR N nx mt k M) : GlueRi N nx mt k 0 M := fun x z hz => by
  rw [hr x z hz]
  exact ⟨.inl, fun hh => hh.resolve_right (by rintro ⟨u, hu, _⟩; omega)⟩
theorem GlueR.new {k z : Nat} {M : Nat → Bool} (hr : GlueR N nx mt k M) (hz : mt k = some z) (hm : M k = false) : Cyc (gs nx mt) k ∧ ¬ SeenL (gs nx mt) nx id k k := by
  have h1 := hr k z hz
  rw [hm] at h1
  refine ⟨?_, fun hs => ?_⟩
  · apply Classical.byContradiction
    intro hc
    have := h1.2 (.inl hc)
    cases this
  · have := h1.2 (.inr hs)
    cases this
theorem GlueR.seen {k : Nat} {M : Nat → Bool} (hr : GlueR N nx mt k M) (hm : mt k = none ∨ M k = true) : Cyc (gs nx mt) k → SeenL (gs nx mt) nx id k k := by
  intro c
  obtain ⟨z, hz⟩ := h.cyc_mt c
  rcases hm with hm | hm
  · rw [hz] at hm; cases hm
  · rcases (hr k z hz).1 hm with h1 | h1
    · exact absurd c h1
    · exact h1
theorem GlueR.old {k : Nat} {M : Nat → Bool} (hr : GlueR N nx mt k M) (hk : k < N) (hm : mt k = none ∨ M k = true) : GlueR N nx mt (k + 1) M := fun x z hz => by
  rw [hr x z hz, SeenL.old h.rv (L := id) (fun e he => by show e < N; omega) (GlueR.seen h hr hm) (h.mt_lt _ _ hz).1]
theorem GlueRi.test {k t y : Nat} {M : Nat → Bool} (hr : GlueRi N nx mt k t M) (hk : k < N) (c : Cyc (gs nx mt) k) (hs : ¬ SeenL (gs nx mt) nx id k k) (ht : t ≤ perS (gs nx mt) k) (hy : iter (gs nx mt) t k = some y) :
    (t < perS (gs nx mt) k → M y = false) ∧ (t = perS (gs nx mt) k → M y = true ∧ y = k) := by
  have hyv := h.rv.steps.iter_stay t k y hk hy
  have cy := (c.on ⟨t, hy⟩).2
  obtain ⟨z, hz⟩ := h.cyc_mt cy
  have h1 := hr y z hz
  have hp := perS_spec c
  constructor
  · intro hlt
    cases hm : M y
    · rfl
    · exfalso
      rcases h1.1 hm with (h2 | h2) | ⟨u, hu, h2 | h2⟩
      · exact h2 cy
      · exact hs (SeenL.same h.rv (L := id) (fun e he => by show e < N; omega) hyv hk h2 (.inl (c.on ⟨t, hy⟩).1))
      · exact h.rv.per_new hk c hu hlt h2 hy
      · have h3 : iter (gs nx mt) (t - u) (nx y) = some y := by
          have := hy
          rw [show t = u + (t - u) by omega, iter_add, h2] at this
          exact this
        have h4 := h.no_turn (t - u) (nx y) (h.nx_lt y hyv)
        rw [h.nx_nx y hyv] at h4
        exact h4 h3
  · intro e
    subst e
    rw [hp.2.1] at hy
    cases hy
    exact ⟨h1.2 (.inr ⟨0, hp.1, .inl rfl⟩), rfl⟩
theorem GlueRi.next {k t y : Nat} {M : Nat → Bool} (hr : GlueRi N nx mt k t M) (hk : k < N) (hy : iter (gs nx mt) t k = some y) : GlueRi N nx mt k (t + 1) (updB (updB M y) (nx y)) := fun x z hz => by
  have hyv := h.rv.steps.iter_stay t k y hk hy
  have hxv := (h.mt_lt _ _ hz).1
  simp only [updB, Bool.or_eq_true, beq_iff_eq]
  rw [hr x z hz]
  constructor
  · rintro (rfl | rfl | hh | ⟨u, hu, hh⟩)
    · exact .inr ⟨t, by omega, .inr (by rw [h.nx_nx y hyv]; exact hy)⟩
    · exact .inr ⟨t, by omega, .inl hy⟩
    · exact .inl hh
    · exact .inr ⟨u, by omega, hh⟩
  · rintro (hh | ⟨u, hu, hh⟩)
    · exact .inr (.inr (.inl hh))
    · by_cases e : u = t
      · subst e
        rw [hy] at hh
        rcases hh with hh | hh
        · exact .inr (.inl (Option.some.inj hh).symm)
        · left
          rw [Option.some.inj hh, h.nx_nx x hxv]
      · exact .inr (.inr (.inr ⟨u, by omega, hh⟩))
theorem GlueRi.done {k : Nat} {M : Nat → Bool} (hr : GlueRi N nx mt k (perS (gs nx mt) k) M) (c : Cyc (gs nx mt) k) : GlueR N nx mt (k + 1) M := fun x z hz => by
  rw [hr x z hz, SeenL.new (L := id) c]
  have e1 := perS_on c (y := x)
  have e2 := perS_on c (y := nx x)
  constructor
  · rintro ((hh | hh) | ⟨u, hu, hh | hh⟩)
    · exact .inl hh
    · exact .inr (.inl hh)
    · exact .inr (.inr (.inl ⟨u, hh⟩))
    · exact .inr (.inr (.inr ⟨u, hh⟩))
  · rintro (hh | hh | hh | hh)
    · exact .inl (.inl hh)
    · exact .inl (.inr hh)
    · obtain ⟨u, hu, hh⟩ := e1.1 hh
      exact .inr ⟨u, hu, .inl hh⟩
    · obtain ⟨u, hu, hh⟩ := e2.1 hh
      exact .inr ⟨u, hu, .inr hh⟩
theorem Glue.count {c : Nat} (ht : Trs (gs nx mt) nx id N c) : c = grounds N nx mt :=
  ht.num h.rv (fun e he => he) (fun x hx _ => ⟨x, hx, .inl (On.refl _ _)⟩) h.num
end

/-- Where a pairing leads. -/
def cnx (xs : List Int) (x : Nat) : Nat := (xs.getD x 0).toNat
theorem cnx_get {xs : List Int} (hp : pairsB xs = true) {x : Nat} (hx : x < xs.length) : xs.getD x 0 = (cnx xs x : Int) ∧ cnx xs x < xs.length ∧ cnx xs x ≠ x ∧ cnx xs (cnx xs x) = x := by
  have h1 := (pairsB_iff.1 hp).1 x hx
  simp only [okAt, Bool.and_eq_true, inB_iff, Bool.not_eq_true', beq_eq_false_iff_ne, beq_iff_eq] at h1
  obtain ⟨⟨h2, h3⟩, h4⟩ := h1
  have e : xs.getD x 0 = (cnx xs x : Int) := by unfold cnx; omega
  refine ⟨e, by omega, fun h => h3 (by rw [e, h]), ?_⟩
  show (xs.getD (cnx xs x) 0).toNat = x
  unfold cnx
  rw [h4]
  omega
theorem close_glue {n m : Nat} {xs : List Int} (hl : xs.length = 2 * n + 2 * m) (hp : pairsB xs = true) : Glue xs.length (cnx xs) (mtR n m xs.length) where
  nx_lt := fun x hx => (cnx_get hp hx).2.1
  nx_nx := fun x hx => (cnx_get hp hx).2.2.2
  nx_ne := fun x hx => (cnx_get hp hx).2.2.1
  mt_lt := fun x y e => ⟨(mtR_lt (by omega) e).1, (mtR_lt (by omega) e).2.1⟩
  mt_mt := fun x y e => (mtR_lt (by omega) e).2.2.2
  mt_ne := fun x y e => (mtR_lt (by omega) e).2.2.1
/-- The rounds of a closed pairing. -/
def closeN (n m : Nat) (xs : List Int) : Nat := grounds xs.length (cnx xs) (mtR n m xs.length)
def closeL (n m : Int) (xs : List Int) : Int := if ofB n m xs = true then (closeN n.toNat m.toNat xs : Nat) else 0
end Go.Proofs.Ytoodfgfbppkbmaa
