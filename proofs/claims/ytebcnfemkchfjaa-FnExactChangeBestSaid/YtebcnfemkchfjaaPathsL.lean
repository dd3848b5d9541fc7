/- The numbers of paths: plain facts. -/
import Derived.Test.YtebcnfemkchfjaaRoundL
import Derived.Test.YtebcnfemkchfjaaIdMapW
namespace Go.Proofs.Ytebcnfemkchfjaa
set_option linter.unusedVariables false
set_option linter.unusedSimpArgs false
set_option linter.unusedSectionVars false

/-- The number of a beam. -/
noncomputable def Gr.bid (g : Gr) (p : Nat) : Int := ((min p (g.endOf p) : Nat) : Int)
/-- The beams of the ports below j are told, and the first i steps of that of j. -/
def Gr.BeamOk (g : Gr) (j i : Nat) (f : Stt → Option Int) : Prop :=
  ∀ x, g.val x → (∀ p, p < g.ports → x ∈ g.wayOf p → (p < j ∨ (p = j ∧ x ∈ (g.wayOf j).take i)) → f x = some (g.bid p)) ∧ ((∀ p, p < g.ports → x ∈ g.wayOf p → ¬ (p < j ∨ (p = j ∧ x ∈ (g.wayOf j).take i))) → f x = none)
/-- The beams and the rounds of the first states R are told, and of the next one r, if there is one, the first i steps. -/
def Gr.RoundOk (g : Gr) (R : List Stt) (L : List Stt) (f : Stt → Option Int) : Prop :=
  ∀ x, g.val x → (∀ p, p < g.ports → x ∈ g.wayOf p → f x = some (g.bid p)) ∧ (∀ i r, R[i]? = some r → Same g.nx g.rev r x → f x = some ((g.ports + i : Nat) : Int)) ∧
    ((x ∈ L ∨ g.rev x ∈ L) → f x = some ((g.ports + R.length : Nat) : Int)) ∧
    ((∀ p, p < g.ports → x ∉ g.wayOf p) → (∀ r ∈ R, ¬ Same g.nx g.rev r x) → ¬ (x ∈ L ∨ g.rev x ∈ L) → f x = none)

section
variable {g : Gr} (hg : g.ok)
include hg
theorem Gr.BeamOk.start : g.BeamOk 0 0 fun _ => none := fun x hx => ⟨fun p hp hm h => by simp at h, fun _ => rfl⟩
theorem Gr.BeamOk.next {j i : Nat} {f : Stt → Option Int} (h : g.BeamOk j i f) (hj : j < g.ports) {y : Stt} (hy : (g.wayOf j)[i]? = some y) : g.BeamOk j (i + 1) (updS f y (g.bid j)) := by
  have hym : y ∈ g.wayOf j := List.mem_of_getElem? hy
  obtain ⟨hi, hye⟩ := List.getElem?_eq_some_iff.1 hy
  have htk : (g.wayOf j).take (i + 1) = (g.wayOf j).take i ++ [y] := by
    rw [List.take_succ_eq_append_getElem hi, hye]
  intro x hx
  obtain ⟨h1, h2⟩ := h x hx
  unfold updS
  by_cases e : x = y
  · subst e
    rw [if_pos rfl]
    refine ⟨fun p hp hm _ => ?_, fun hn => ?_⟩
    · obtain ⟨a, ha⟩ := (Gr.mem_way hg hp).1 hm
      obtain ⟨b, hb⟩ := (Gr.mem_way hg hj).1 hym
      rw [(Gr.way_apart hg hp hj ha hb).1]
    · exact absurd (.inr ⟨rfl, by rw [htk]; simp⟩) (hn j hj hym)
  · rw [if_neg e]
    have hiff : x ∈ (g.wayOf j).take (i + 1) ↔ x ∈ (g.wayOf j).take i := by
      rw [htk, List.mem_append, List.mem_singleton]
      exact ⟨fun h => h.resolve_right e, .inl⟩
    rw [hiff]
    exact ⟨h1, h2⟩
theorem Gr.BeamOk.done {j : Nat} {f : Stt → Option Int} (h : g.BeamOk j (g.wayOf j).length f) : g.BeamOk (j + 1) 0 f := by
  intro x hx
  obtain ⟨h1, h2⟩ := h x hx
  rw [List.take_length] at h1 h2
  refine ⟨fun p hp hm hc => h1 p hp hm ?_, fun hn => h2 fun p hp hm hc => hn p hp hm ?_⟩
  · rcases hc with hc | ⟨_, hc⟩
    · by_cases e : p = j
      · exact .inr ⟨e, by rw [← e]; exact hm⟩
      · exact .inl (by omega)
    · simp at hc
  · rcases hc with hc | ⟨hc, _⟩
    · exact .inl (by omega)
    · exact .inl (by omega)
theorem Gr.BeamOk.all {f : Stt → Option Int} (h : g.BeamOk g.ports 0 f) : g.RoundOk [] [] f := by
  intro x hx
  obtain ⟨h1, h2⟩ := h x hx
  refine ⟨fun p hp hm => h1 p hp hm (.inl hp), fun i r hr => by simp at hr, fun hc => by simp at hc, fun hn _ _ => h2 fun p hp hm _ => hn p hp hm⟩
/-- A state is told just if it is marked. -/
theorem Gr.RoundOk.told {k : Nat} {f : Stt → Option Int} (h : g.RoundOk (g.repsTo k) [] f) {x : Stt} (hx : g.val x) : (f x).isSome = true ↔ g.Marked k x := by
  obtain ⟨h1, h2, _, h4⟩ := h x hx
  constructor
  · intro hs
    apply Classical.byContradiction
    intro hn
    have : f x = none := h4 (fun p hp hm => hn (.inl ⟨p, hp, hm⟩)) (fun r hr hs => hn (.inr ⟨r, hr, hs⟩)) (by simp)
    rw [this] at hs
    cases hs
  · rintro (⟨p, hp, hm⟩ | ⟨r, hr, hs⟩)
    · rw [h1 p hp hm]; rfl
    · obtain ⟨i, hi, rfl⟩ := List.getElem_of_mem hr
      rw [h2 i _ (List.getElem?_eq_getElem hi) hs]; rfl
theorem Gr.RoundOk.next {R L : List Stt} {f : Stt → Option Int} (h : g.RoundOk R L f) {y : Stt} (hy : g.val y) (hb : ∀ p, p < g.ports → y ∉ g.wayOf p) (hs : ∀ r ∈ R, ¬ Same g.nx g.rev r y) (hb2 : ∀ p, p < g.ports → g.rev y ∉ g.wayOf p) (hs2 : ∀ r ∈ R, ¬ Same g.nx g.rev r (g.rev y)) :
    g.RoundOk R (L ++ [y]) (updS (updS f y ((g.ports + R.length : Nat) : Int)) (g.rev y) ((g.ports + R.length : Nat) : Int)) := by
  intro x hx
  obtain ⟨h1, h2, h3, h4⟩ := h x hx
  unfold updS
  by_cases e : x = y
  · subst e
    have e1 : (if x = g.rev x then some ((g.ports + R.length : Nat) : Int) else if x = x then some ((g.ports + R.length : Nat) : Int) else f x) = some ((g.ports + R.length : Nat) : Int) := by
      rw [if_pos (rfl : x = x)]; split <;> rfl
    rw [e1]
    refine ⟨fun p hp hm => absurd hm (hb p hp), fun i r hr hs' => absurd hs' (hs r (List.mem_of_getElem? hr)), fun _ => rfl, fun _ _ hn => absurd (.inl (by simp)) hn⟩
  · by_cases e2 : x = g.rev y
    · subst e2
      rw [if_pos rfl]
      refine ⟨fun p hp hm => absurd hm (hb2 p hp), fun i r hr hs' => absurd hs' (hs2 r (List.mem_of_getElem? hr)), fun _ => rfl, fun _ _ hn => absurd (.inr (by rw [Gr.rev_rev hg hy]; simp)) hn⟩
    · rw [if_neg e2, if_neg e]
      have e3 : g.rev x ≠ y := fun e4 => e2 (by rw [← e4, Gr.rev_rev hg hx])
      have hiff : (x ∈ L ++ [y] ∨ g.rev x ∈ L ++ [y]) ↔ (x ∈ L ∨ g.rev x ∈ L) := by
        simp [e, e3]
      rw [hiff]
      exact ⟨h1, h2, h3, h4⟩
theorem Gr.RoundOk.done {R : List Stt} {f : Stt → Option Int} {r : Stt} (hr : g.val r) (hc : Cyc g.nx r) (h : g.RoundOk R (g.roundOf r) f) : g.RoundOk (R ++ [r]) [] f := by
  intro x hx
  obtain ⟨h1, h2, h3, h4⟩ := h x hx
  refine ⟨h1, fun i q hq hs => ?_, fun hn => by simp at hn, fun hb hs _ => ?_⟩
  · by_cases hi : i < R.length
    · rw [List.getElem?_append_left hi] at hq
      exact h2 i q hq hs
    · rw [List.getElem?_append_right (by omega)] at hq
      have hi2 : i - R.length = 0 := by
        apply Classical.byContradiction
        intro hne
        rw [List.getElem?_eq_none (by simp; omega)] at hq
        cases hq
      rw [hi2] at hq
      have hqr : r = q := by simpa using hq
      subst hqr
      rw [h3 ((Gr.same_iff hg hr hc).1 hs), show i = R.length by omega]
  · exact h4 hb (fun q hq => hs q (List.mem_append.2 (.inl hq))) fun hm => hs r (by simp) ((Gr.same_iff hg hr hc).2 hm)
theorem Gr.round_val {r y : Stt} (hr : g.val r) (hc : Cyc g.nx r) (hy : y ∈ g.roundOf r) : g.val y ∧ Cyc g.nx y := by
  have o := (Gr.mem_round hg hr hc).1 hy
  exact ⟨(Gr.rvs hg).on_val hr o, (hc.on o).2⟩
/-- The states of a new round are told neither by a beam nor by an elder round. -/
theorem Gr.round_free {k : Nat} (hk : k < 4 * (g.n * g.m)) (hm : ¬ g.Marked k (decS k)) (hc : Cyc g.nx (decS k)) {y : Stt} (hy : y ∈ g.roundOf (decS k)) :
    g.val y ∧ (∀ p, p < g.ports → y ∉ g.wayOf p) ∧ (∀ r ∈ g.repsTo k, ¬ Same g.nx g.rev r y) ∧ (∀ p, p < g.ports → g.rev y ∉ g.wayOf p) ∧ (∀ r ∈ g.repsTo k, ¬ Same g.nx g.rev r (g.rev y)) := by
  have hv := Gr.dec_val hg hk
  obtain ⟨hyv, hyc⟩ := Gr.round_val hg hv hc hy
  have o := (Gr.mem_round hg hv hc).1 hy
  have hE := (Gr.rvs hg).eqv
  have s1 : Same g.nx g.rev y (decS k) := .inl (hc.on o).1
  have s2 : Same g.nx g.rev (g.rev y) (decS k) := hE.trans _ y _ ⟨Gr.rev_val hg hyv, (Gr.rvs hg).cyc_r hyv hyc⟩ ⟨hyv, hyc⟩ ⟨hv, hc⟩ (.inr (On.refl _ _)) s1
  have key : ∀ z, g.val z → Cyc g.nx z → Same g.nx g.rev z (decS k) → ∀ r ∈ g.repsTo k, ¬ Same g.nx g.rev r z := by
    intro z hz hcz hs r hr hs2
    obtain ⟨h1, c, hc2, rfl⟩ := (Gr.mem_reps hg).1 hr
    exact hm (.inr ⟨_, hr, hE.trans _ z _ ⟨Gr.dec_val hg (by omega), h1.1⟩ ⟨hz, hcz⟩ ⟨hv, hc⟩ hs2 hs⟩)
  exact ⟨hyv, fun p hp h => Gr.beam_not_cyc hg hp h hyc, key y hyv hyc s1, fun p hp h => Gr.beam_not_cyc hg hp h ((Gr.rvs hg).cyc_r hyv hyc), key _ (Gr.rev_val hg hyv) ((Gr.rvs hg).cyc_r hyv hyc) s2⟩
end
end Go.Proofs.Ytebcnfemkchfjaa
