/- Crossings of beams, added by pairs of beams: plain facts. -/
import Derived.Test.YtcigmmafmogmkaaCrossL
import Derived.Test.YtcigmmafmogmkaaRoundL
import Derived.Test.YtcigmmafmogmkaaChordsTL
namespace Go.Proofs.Ytcigmmafmogmkaa
set_option linter.unusedVariables false
set_option linter.unusedSimpArgs false
set_option linter.unusedSectionVars false

noncomputable def Gr.lessB (g : Gr) (p : Nat) : Bool := decide (p < g.endOf p)
noncomputable def Gr.passB (g : Gr) (c p : Nat) : Bool := decide (0 < (g.wayI p).count (c : Int))
/-- The crossings of a beam with the later ones below k. -/
noncomputable def Gr.rowB (g : Gr) (p k : Nat) : Nat := sumN (fun q => if (decide (p < q) && (g.lessB p && g.lessB q)) = true then g.betwN p q else 0) k
noncomputable def Gr.pairB (g : Gr) (k : Nat) : Nat := sumN (fun p => g.rowB p g.ports) k
theorem cnt_below (B : Nat → Bool) (q : Nat) : ∀ d, cntN (fun p => decide (p < q) && B p) (q + d) = cntN B q := by
  intro d
  induction d with
  | zero =>
    refine cntN_congr fun p hp => ?_
    rw [decide_eq_true (show p < q from hp)]
    rfl
  | succ d ih =>
    rw [← Nat.add_assoc, cntN_succ, ih, decide_eq_false (show ¬ q + d < q by omega)]
    rfl
/-- The pairs of few. -/
theorem pairs_few (B : Nat → Bool) : ∀ P, (cntN B P = 0 → sumN (fun q => if B q = true then cntN B q else 0) P = 0) ∧ (cntN B P = 1 → sumN (fun q => if B q = true then cntN B q else 0) P = 0) ∧ (cntN B P = 2 → sumN (fun q => if B q = true then cntN B q else 0) P = 1) := by
  intro P
  induction P with
  | zero => exact ⟨fun _ => rfl, fun _ => rfl, fun h => absurd h (by show ¬ (0 = 2); omega)⟩
  | succ P ih =>
    obtain ⟨h0, h1, h2⟩ := ih
    rw [cntN_succ]
    show (_ → sumN _ P + _ = 0) ∧ (_ → sumN _ P + _ = 0) ∧ (_ → sumN _ P + _ = 1)
    cases hb : B P
    · simp only [hb, Bool.false_eq_true, if_false, Nat.add_zero]
      exact ⟨h0, h1, h2⟩
    · simp only [hb, if_true]
      refine ⟨fun h => by omega, fun h => ?_, fun h => ?_⟩
      · have e : cntN B P = 0 := by omega
        rw [h0 e, e]
      · have e : cntN B P = 1 := by omega
        rw [h1 e, e]
theorem pairs_sum (B : Nat → Bool) (P : Nat) (hk : cntN B P ≤ 2) : sumN (fun p => sumN (fun q => if (decide (p < q) && (B p && B q)) = true then 1 else 0) P) P = if cntN B P = 2 then 1 else 0 := by
  rw [sumN_swap]
  have e : sumN (fun q => sumN (fun p => if (decide (p < q) && (B p && B q)) = true then 1 else 0) P) P = sumN (fun q => if B q = true then cntN B q else 0) P := by
    refine sumN_congr fun q hq => ?_
    cases hb : B q
    · simp only [Bool.and_false, Bool.false_eq_true, if_false]
      exact sumN_zero _
    · simp only [Bool.and_true, if_true]
      have := cnt_below B q (P - q)
      rw [show q + (P - q) = P by omega] at this
      exact this
  rw [e]
  obtain ⟨h0, h1, h2⟩ := pairs_few B P
  have : cntN B P = 0 ∨ cntN B P = 1 ∨ cntN B P = 2 := by omega
  rcases this with h | h | h
  · rw [h0 h, h]; rfl
  · rw [h1 h, h]; rfl
  · rw [h2 h, h]; rfl
theorem cntN_eq1 {f : Nat → Bool} {p s : Nat} (hp : p < s) (h : ∀ e, e < s → (f e = true ↔ e = p)) : cntN f s = 1 := by
  have e : cntN f s = sumN (fun c => if c = p then 1 else 0) s := sumN_congr fun c hc => by
    by_cases e : c = p
    · rw [if_pos e, if_pos ((h c hc).2 e)]
    · rw [if_neg e, if_neg fun e2 => e ((h c hc).1 e2)]
  rw [e]
  exact sumN_one (fun _ => 1) p s hp
theorem cntN_eq0 {f : Nat → Bool} {s : Nat} (h : ∀ e, e < s → f e = false) : cntN f s = 0 := by
  have e : cntN f s = sumN (fun _ => 0) s := sumN_congr fun c hc => by rw [h c hc]; rfl
  rw [e, sumN_zero]
theorem cntN_eq2 {f : Nat → Bool} {p q s : Nat} (hpq : p ≠ q) (hp : p < s) (hq : q < s) (h : ∀ e, e < s → (f e = true ↔ e = p ∨ e = q)) : cntN f s = 2 := by
  have e : cntN f s = sumN (fun c => (if c = p then 1 else 0) + (if c = q then 1 else 0)) s := sumN_congr fun c hc => by
    have h1 := h c hc
    by_cases e : c = p
    · have e2 : c ≠ q := fun h => hpq (by rw [← e, h])
      rw [if_pos e, if_neg e2, if_pos (h1.2 (.inl e))]
    · by_cases e2 : c = q
      · rw [if_neg e, if_pos e2, if_pos (h1.2 (.inr e2))]
      · rw [if_neg e, if_neg e2, if_neg fun h => (h1.1 h).elim e e2]
  rw [e, sumN_add, sumN_one (fun _ => 1) p s hp, sumN_one (fun _ => 1) q s hq]
section
variable {g : Gr} (hg : g.ok)
include hg
theorem Gr.passB_iff {c p : Nat} (hp : p < g.ports) : g.passB c p = true ↔ ∃ d, d < 4 ∧ (c, d) ∈ g.wayOf p := by
  unfold Gr.passB
  rw [decide_eq_true_iff, List.count_pos_iff, Gr.wayI_eq, List.mem_map]
  constructor
  · rintro ⟨y, hy, e⟩
    have hv := Gr.way_val hg hp hy
    have e2 : y = (c, y.2) := Prod.ext (by have : (y.1 : Int) = c := e; omega) rfl
    exact ⟨y.2, hv.2, by rw [← e2]; exact hy⟩
  · rintro ⟨d, hd, h⟩
    exact ⟨_, h, rfl⟩
/-- The lesser port of the beam of a state. -/
theorem Gr.lesser {x : Stt} (hx : g.val x) (ho : g.onB x = true) : ∃ L, L < g.ports ∧ g.lessB L = true ∧ (x ∈ g.wayOf L ∨ g.rev x ∈ g.wayOf L) ∧ ∀ p, p < g.ports → g.lessB p = true → (x ∈ g.wayOf p ∨ g.rev x ∈ g.wayOf p) → p = L := by
  obtain ⟨p0, hp0, hw⟩ := (Gr.onB_way hg hx).1 ho
  obtain ⟨e1, e2, e3⟩ := Gr.endOf_pair hg hp0
  have huniq : ∀ L, (L = p0 ∨ L = g.endOf p0) → g.lessB L = true → ∀ p, p < g.ports → g.lessB p = true → (x ∈ g.wayOf p ∨ g.rev x ∈ g.wayOf p) → p = L := by
    intro L hL hl p hp hlp h
    have hpp : p = p0 ∨ p = g.endOf p0 := by
      rcases h with h | h
      · exact .inl (Gr.way_two hg hp hp0 h hw)
      · have h2 := (Gr.way_revs hg hp hx).1 h
        have := Gr.way_two hg (Gr.endOf_pair hg hp).1 hp0 h2 hw
        exact .inr (by rw [← this, (Gr.endOf_pair hg hp).2.2])
    unfold Gr.lessB at hl hlp
    rw [decide_eq_true_iff] at hl hlp
    rcases hL with rfl | rfl <;> rcases hpp with rfl | rfl
    · rfl
    · rw [e3] at hlp; omega
    · rw [e3] at hl; omega
    · rfl
  by_cases hlt : p0 < g.endOf p0
  · have hl : g.lessB p0 = true := decide_eq_true hlt
    exact ⟨p0, hp0, hl, .inl hw, huniq p0 (.inl rfl) hl⟩
  · have hl : g.lessB (g.endOf p0) = true := decide_eq_true (by rw [e3]; omega)
    exact ⟨g.endOf p0, e1, hl, .inr (Gr.way_rev1 hg hp0 hw), huniq _ (.inr rfl) hl⟩
/-- How many beams go through an empty cell. -/
theorem Gr.dot_beams {c : Nat} (hc : c < g.n * g.m) (hs : g.sig c = 46) :
    cntN (fun p => g.lessB p && g.passB c p) g.ports ≤ 2 ∧ (cntN (fun p => g.lessB p && g.passB c p) g.ports = 2 ↔ (g.crB c && g.bmB c) = true) := by
  have v0 : g.val (c, 0) := ⟨hc, by show 0 < 4; omega⟩
  have v1 : g.val (c, 1) := ⟨hc, by show 1 < 4; omega⟩
  have r0 : g.rev (c, 0) = (c, 2) := Gr.rev_dot hg hs
  have r1 : g.rev (c, 1) = (c, 3) := Gr.rev_dot hg hs
  have hB : ∀ p, p < g.ports → ((g.lessB p && g.passB c p) = true ↔ g.lessB p = true ∧ (((c, 0) ∈ g.wayOf p ∨ g.rev (c, 0) ∈ g.wayOf p) ∨ ((c, 1) ∈ g.wayOf p ∨ g.rev (c, 1) ∈ g.wayOf p))) := fun p hp => by
    rw [Bool.and_eq_true, Gr.passB_iff hg hp, r0, r1]
    refine and_congr_right fun _ => ?_
    constructor
    · rintro ⟨d, hd, h⟩
      have : d = 0 ∨ d = 1 ∨ d = 2 ∨ d = 3 := by omega
      rcases this with rfl | rfl | rfl | rfl
      · exact .inl (.inl h)
      · exact .inr (.inl h)
      · exact .inl (.inr h)
      · exact .inr (.inr h)
    · rintro ((h | h) | (h | h))
      · exact ⟨0, by omega, h⟩
      · exact ⟨2, by omega, h⟩
      · exact ⟨1, by omega, h⟩
      · exact ⟨3, by omega, h⟩
  have hoff : ∀ x, g.val x → g.onB x = false → ∀ p, p < g.ports → ¬ (x ∈ g.wayOf p ∨ g.rev x ∈ g.wayOf p) := fun x hx ho p hp h => by
    have : g.onB x = true := (Gr.onB_way hg hx).2 (by
      rcases h with h | h
      · exact ⟨p, hp, h⟩
      · exact ⟨_, (Gr.endOf_pair hg hp).1, (Gr.way_revs hg hp hx).1 h⟩)
    rw [ho] at this
    cases this
  have hcb : (g.crB c && g.bmB c) = true ↔ ¬ g.Path (c, 0) (c, 1) ∧ g.onB (c, 0) = true ∧ g.onB (c, 1) = true := by
    unfold Gr.bmB
    rw [Bool.and_eq_true, Gr.crB_iff, Bool.and_eq_true]
    constructor
    · rintro ⟨⟨_, h⟩, h2⟩; exact ⟨h, h2⟩
    · rintro ⟨h, h2⟩; exact ⟨⟨hs, h⟩, h2⟩
  rw [hcb]
  cases o0 : g.onB (c, 0) <;> cases o1 : g.onB (c, 1)
  · have : cntN (fun p => g.lessB p && g.passB c p) g.ports = 0 := cntN_eq0 fun p hp => by
      cases h : (g.lessB p && g.passB c p)
      · rfl
      · rcases ((hB p hp).1 h).2 with h | h
        · exact absurd h (hoff _ v0 o0 p hp)
        · exact absurd h (hoff _ v1 o1 p hp)
    rw [this]
    simp
  · obtain ⟨L, hL, hl, hw, hu⟩ := Gr.lesser hg v1 o1
    have : cntN (fun p => g.lessB p && g.passB c p) g.ports = 1 := cntN_eq1 hL fun p hp => by
      rw [hB p hp]
      constructor
      · rintro ⟨h1, h | h⟩
        · exact absurd h (hoff _ v0 o0 p hp)
        · exact hu p hp h1 h
      · rintro rfl
        exact ⟨hl, .inr hw⟩
    rw [this]
    simp
  · obtain ⟨L, hL, hl, hw, hu⟩ := Gr.lesser hg v0 o0
    have : cntN (fun p => g.lessB p && g.passB c p) g.ports = 1 := cntN_eq1 hL fun p hp => by
      rw [hB p hp]
      constructor
      · rintro ⟨h1, h | h⟩
        · exact hu p hp h1 h
        · exact absurd h (hoff _ v1 o1 p hp)
      · rintro rfl
        exact ⟨hl, .inl hw⟩
    rw [this]
    simp
  · obtain ⟨L, hL, hl, hw, hu⟩ := Gr.lesser hg v0 o0
    obtain ⟨L', hL', hl', hw', hu'⟩ := Gr.lesser hg v1 o1
    have hpath : g.Path (c, 0) (c, 1) ↔ L = L' := by
      have key : ∀ (x : Stt) (hx : x ∈ g.wayOf L), g.Path x (c, 1) ↔ L = L' := fun x hx => by
        rw [Gr.path_beam hg hL hx v1]
        constructor
        · rintro (h | h)
          · exact hu' L hL hl (.inl h)
          · exact hu' L hL hl (.inr ((Gr.way_revs hg hL v1).2 h))
        · rintro rfl
          rcases hw' with h | h
          · exact .inl h
          · exact .inr ((Gr.way_revs hg hL v1).1 h)
      rcases hw with h | h
      · exact key _ h
      · rw [← key _ h]
        have hv := Gr.rev_val hg v0
        unfold Gr.Path
        have e1 : On g.nx (g.rev (c, 0)) (c, 1) ↔ On g.nx (g.rev (c, 1)) (c, 0) := by
          constructor
          · intro h; have := (Gr.rvs hg).on_back hv h; rwa [Gr.rev_rev hg v0] at this
          · intro h; have := (Gr.rvs hg).on_back (Gr.rev_val hg v1) h; rwa [Gr.rev_rev hg v1] at this
        have e2 : On g.nx (c, 1) (g.rev (c, 0)) ↔ On g.nx (c, 0) (g.rev (c, 1)) := by
          constructor
          · intro h; have := (Gr.rvs hg).on_back v1 h; rwa [Gr.rev_rev hg v0] at this
          · intro h; have := (Gr.rvs hg).on_back v0 h; rwa [Gr.rev_rev hg v1] at this
        have e3 : On g.nx (g.rev (c, 0)) (g.rev (c, 1)) ↔ On g.nx (c, 1) (c, 0) := by
          constructor
          · intro h; have := (Gr.rvs hg).on_back hv h; rwa [Gr.rev_rev hg v0, Gr.rev_rev hg v1] at this
          · intro h; exact (Gr.rvs hg).on_back v1 h
        have e4 : On g.nx (g.rev (c, 1)) (g.rev (c, 0)) ↔ On g.nx (c, 0) (c, 1) := by
          constructor
          · intro h; have := (Gr.rvs hg).on_back (Gr.rev_val hg v1) h; rwa [Gr.rev_rev hg v0, Gr.rev_rev hg v1] at this
          · intro h; exact (Gr.rvs hg).on_back v0 h
        rw [e1, e2, e3, e4]
        constructor
        · rintro ((h | h) | (h | h))
          · exact .inr (.inr h)
          · exact .inr (.inl h)
          · exact .inl (.inr h)
          · exact .inl (.inl h)
        · rintro ((h | h) | (h | h))
          · exact .inr (.inr h)
          · exact .inr (.inl h)
          · exact .inl (.inr h)
          · exact .inl (.inl h)
    by_cases e : L = L'
    · subst e
      have : cntN (fun p => g.lessB p && g.passB c p) g.ports = 1 := cntN_eq1 hL fun p hp => by
        rw [hB p hp]
        constructor
        · rintro ⟨h1, h | h⟩
          · exact hu p hp h1 h
          · exact hu' p hp h1 h
        · rintro rfl
          exact ⟨hl, .inl hw⟩
      rw [this, hpath]
      simp
    · have : cntN (fun p => g.lessB p && g.passB c p) g.ports = 2 := cntN_eq2 e hL hL' fun p hp => by
        rw [hB p hp]
        constructor
        · rintro ⟨h1, h | h⟩
          · exact .inl (hu p hp h1 h)
          · exact .inr (hu' p hp h1 h)
        · rintro (rfl | rfl)
          · exact ⟨hl, .inl hw⟩
          · exact ⟨hl', .inr hw'⟩
      rw [this, hpath]
      simp [e]
/-- The pairs of beams, added: the cells at which two cross. -/
theorem Gr.pairB_eq : g.pairB g.ports = g.crN g.bmB := by
  unfold Gr.pairB Gr.rowB Gr.crN
  have e1 : ∀ p q, (if (decide (p < q) && (g.lessB p && g.lessB q)) = true then g.betwN p q else 0) = sumN (fun c => if (decide (p < q) && ((g.lessB p && g.passB c p) && (g.lessB q && g.passB c q))) = true then (if g.sig c = 46 then 1 else 0) else 0) (g.n * g.m) := by
    intro p q
    cases hc : (decide (p < q) && (g.lessB p && g.lessB q))
    · have : ∀ c, (decide (p < q) && ((g.lessB p && g.passB c p) && (g.lessB q && g.passB c q))) = false := fun c => by
        revert hc
        cases decide (p < q) <;> cases g.lessB p <;> cases g.lessB q <;> simp
      simp only [this, Bool.false_eq_true, if_false]
      exact (sumN_zero _).symm
    · simp only [if_true]
      unfold Gr.betwN cntN
      refine sumN_congr fun c _ => ?_
      have : (decide (p < q) && ((g.lessB p && g.passB c p) && (g.lessB q && g.passB c q))) = (g.passB c p && g.passB c q) := by
        revert hc
        cases decide (p < q) <;> cases g.lessB p <;> cases g.lessB q <;> simp
      rw [this]
      show (if (g.passB c p && g.passB c q && g.sig c == 46) = true then 1 else 0) = _
      by_cases hs : g.sig c = 46
      · simp [hs]
      · simp [hs]
  have e2 : sumN (fun p => sumN (fun q => if (decide (p < q) && (g.lessB p && g.lessB q)) = true then g.betwN p q else 0) g.ports) g.ports
      = sumN (fun c => sumN (fun p => sumN (fun q => if (decide (p < q) && ((g.lessB p && g.passB c p) && (g.lessB q && g.passB c q))) = true then (if g.sig c = 46 then 1 else 0) else 0) g.ports) g.ports) (g.n * g.m) := by
    have a1 : ∀ p, sumN (fun q => if (decide (p < q) && (g.lessB p && g.lessB q)) = true then g.betwN p q else 0) g.ports
        = sumN (fun c => sumN (fun q => if (decide (p < q) && ((g.lessB p && g.passB c p) && (g.lessB q && g.passB c q))) = true then (if g.sig c = 46 then 1 else 0) else 0) g.ports) (g.n * g.m) := fun p => by
      rw [sumN_congr fun q _ => e1 p q]
      exact sumN_swap _ _ _
    rw [sumN_congr fun p _ => a1 p]
    exact sumN_swap _ _ _
  rw [e2]
  unfold cntN
  refine sumN_congr fun c hc => ?_
  by_cases hs : g.sig c = 46
  · simp only [hs, if_true]
    obtain ⟨h1, h2⟩ := Gr.dot_beams hg hc hs
    rw [pairs_sum (fun p => g.lessB p && g.passB c p) g.ports h1]
    by_cases e : cntN (fun p => g.lessB p && g.passB c p) g.ports = 2
    · rw [if_pos e, if_pos (h2.1 e)]
    · rw [if_neg e, if_neg fun h => e (h2.2 h)]
  · have h1 : (g.crB c && g.bmB c) = false := by
      cases h : g.crB c
      · rfl
      · exact absurd (Gr.crB_iff.1 h).1 hs
    simp only [h1, hs, if_false, Bool.false_eq_true]
    have z : ∀ p, sumN (fun q => if (decide (p < q) && ((g.lessB p && g.passB c p) && (g.lessB q && g.passB c q))) = true then 0 else 0) g.ports = 0 := fun p => by
      have : ∀ q, (if (decide (p < q) && ((g.lessB p && g.passB c p) && (g.lessB q && g.passB c q))) = true then 0 else 0) = 0 := fun q => by split <;> rfl
      rw [sumN_congr fun q _ => this q]
      exact sumN_zero _
    rw [sumN_congr fun p _ => z p]
    exact sumN_zero _
end
end Go.Proofs.Ytcigmmafmogmkaa
