/- Cells at which different paths cross: plain facts. -/
import Derived.Test.YtcigmmafmogmkaaSelfPL
namespace Go.Proofs.Ytcigmmafmogmkaa
set_option linter.unusedVariables false
set_option linter.unusedSimpArgs false
set_option linter.unusedSectionVars false

open Classical in
/-- Two different paths cross at the cell. -/
noncomputable def Gr.crB (g : Gr) (c : Nat) : Bool := g.sig c == 46 && !decide (g.Path (c, 0) (c, 1))
open Classical in
/-- The state lies on a beam. -/
noncomputable def Gr.onB (g : Gr) (x : Stt) : Bool := decide (¬ Cyc g.nx x)
noncomputable def Gr.totB (g : Gr) (_ : Nat) : Bool := true
noncomputable def Gr.bmB (g : Gr) (c : Nat) : Bool := g.onB (c, 0) && g.onB (c, 1)
noncomputable def Gr.rdB (g : Gr) (c : Nat) : Bool := !g.onB (c, 0) && !g.onB (c, 1)
/-- How many cells are such. -/
noncomputable def Gr.crN (g : Gr) (F : Nat → Bool) : Nat := cntN (fun c => g.crB c && F c) (g.n * g.m)
theorem Gr.onB_iff {g : Gr} {x : Stt} : g.onB x = true ↔ ¬ Cyc g.nx x := by simp [Gr.onB]
theorem Gr.onB_not {g : Gr} {x : Stt} : g.onB x = false ↔ Cyc g.nx x := by simp [Gr.onB]
theorem Gr.crB_iff {g : Gr} {c : Nat} : g.crB c = true ↔ g.sig c = 46 ∧ ¬ g.Path (c, 0) (c, 1) := by simp [Gr.crB]
section
variable {g : Gr} (hg : g.ok)
include hg
theorem Gr.onB_way {x : Stt} (hx : g.val x) : g.onB x = true ↔ ∃ p, p < g.ports ∧ x ∈ g.wayOf p := by
  rw [Gr.onB_iff]
  constructor
  · intro h
    apply Classical.byContradiction
    intro hn
    exact h (Gr.free_cyc hg hx fun p hp hw => hn ⟨p, hp, hw⟩)
  · rintro ⟨p, hp, hw⟩
    exact Gr.beam_not_cyc hg hp hw
theorem Gr.RoundOk.kind {f : Stt → Option Int} (h : g.RoundOk (g.repsTo (4 * (g.n * g.m))) [] f) {x : Stt} (hx : g.val x) : ∃ i, f x = some i ∧ 0 ≤ i ∧ i ≤ 1000 ∧ (i < (g.ports : Int) ↔ g.onB x = true) := by
  have ht := Gr.reps_trv hg
  have hE := (Gr.rvs hg).eqv
  have hp20 := (Gr.ports_bd hg).2
  by_cases hb : ∃ p, p < g.ports ∧ x ∈ g.wayOf p
  · have ho := (Gr.onB_way hg hx).2 hb
    obtain ⟨p, hp, hpx⟩ := hb
    have h1 := Gr.bid_ports hg hp
    have h0 : 0 ≤ g.bid p := by unfold Gr.bid; omega
    exact ⟨_, (h x hx).1 p hp hpx, h0, by omega, ⟨fun _ => ho, fun _ => h1⟩⟩
  · have hn : ¬ g.onB x = true := fun e => hb ((Gr.onB_way hg hx).1 e)
    have c := Gr.free_cyc hg hx fun q hq hqx => hb ⟨q, hq, hqx⟩
    obtain ⟨r, hr, hs⟩ := ht.some x ⟨hx, c⟩
    obtain ⟨i, hi, rfl⟩ := List.getElem_of_mem hr
    have hs := hE.symm _ _ ⟨hx, c⟩ (ht.all _ hr) hs
    have hlen : (g.repsTo (4 * (g.n * g.m))).length ≤ 100 := by
      have := Gr.size_le hg
      unfold Gr.repsTo
      refine Nat.le_trans (List.length_filter_le _ _) ?_
      rw [List.length_map, List.length_range]
      omega
    exact ⟨_, (h x hx).2.1 i _ (List.getElem?_eq_getElem hi) hs, by omega, by omega, ⟨fun e => by omega, fun e => absurd e hn⟩⟩
theorem Gr.Path.revR {x y : Stt} (hy : g.val y) : g.Path x (g.rev y) ↔ g.Path x y := by
  unfold Gr.Path
  rw [Gr.rev_rev hg hy]
  exact Or.comm
theorem Gr.pass_ok {c : Nat} (hc : c < g.n * g.m) : (g.fw (c, 0) c 0 || g.bw (c, 0) c 0) = true ∧ ∀ d, d < 4 → ¬ ((g.fw (c, 0) c d || g.bw (c, 0) c d) = true ∧ (g.fw (c, 0) c (r4 (g.sig c) d) || g.bw (c, 0) c (r4 (g.sig c) d)) = true) := by
  have h0 : g.val (c, 0) := ⟨hc, by show 0 < 4; omega⟩
  refine ⟨?_, fun d hd => ?_⟩
  · have : g.fw (c, 0) c 0 = true := Gr.fw_iff.2 ⟨0, rfl⟩
    rw [this]
    rfl
  · have hv : g.val (c, d) := ⟨hc, hd⟩
    have hr := Gr.no_rev hg hv
    have hv2 := Gr.rev_val hg hv
    rw [Gr.rev_at hg] at hr hv2
    rw [Bool.or_eq_true, Bool.or_eq_true, Gr.fw_iff, Gr.bw_iff, Gr.fw_iff, Gr.bw_iff]
    rintro ⟨h1 | h1, h2 | h2⟩
    · exact hr (on_total h1 h2)
    · exact hr (.inr (On.trans h2 h1))
    · exact hr (.inl (On.trans h1 h2))
    · exact hr (Gr.on_meet hg hv hv2 h1 h2)
omit hg in
theorem fin_le (L : Int) (P : Nat → Bool) (h0 : P 0 = true) (hd : ∀ d, d < 4 → ¬ (P d = true ∧ P (r4 L d) = true)) : 1 ≤ cntN P 4 ∧ cntN P 4 ≤ 2 := by
  have h1 := hd 0 (by decide)
  have h2 := hd 1 (by decide)
  have h3 := hd 2 (by decide)
  have h4 := hd 3 (by decide)
  rw [cnt4_eq]
  by_cases a : L = 114
  · subst a
    simp only [show r4 114 0 = 3 from rfl, show r4 114 1 = 2 from rfl, show r4 114 2 = 1 from rfl, show r4 114 3 = 0 from rfl] at *
    revert h0 h1 h2 h3 h4
    cases P 0 <;> cases P 1 <;> cases P 2 <;> cases P 3 <;> simp
  · by_cases b : L = 102
    · subst b
      simp only [show r4 102 0 = 1 from rfl, show r4 102 1 = 0 from rfl, show r4 102 2 = 3 from rfl, show r4 102 3 = 2 from rfl] at *
      revert h0 h1 h2 h3 h4
      cases P 0 <;> cases P 1 <;> cases P 2 <;> cases P 3 <;> simp
    · have r : ∀ d, r4 L d = opp d := fun d => by unfold r4 bend; simp [a, b]
      simp only [r, show opp 0 = 2 from rfl, show opp 1 = 3 from rfl, show opp 2 = 0 from rfl, show opp 3 = 1 from rfl] at *
      revert h0 h1 h2 h3 h4
      cases P 0 <;> cases P 1 <;> cases P 2 <;> cases P 3 <;> simp
theorem Gr.pass_bd {c : Nat} (hc : c < g.n * g.m) : 1 ≤ g.passN c ∧ g.passN c ≤ 2 := fin_le (g.sig c) _ (Gr.pass_ok hg hc).1 (Gr.pass_ok hg hc).2
theorem Gr.rev_dot {c d : Nat} (hs : g.sig c = 46) : g.rev (c, d) = (c, opp d) := by
  rw [Gr.rev_at hg, hs]
  unfold r4
  rw [bend_dot]
/-- An empty cell that its path goes through once is one at which two cross. -/
theorem Gr.pass_dot {c : Nat} (hc : c < g.n * g.m) (hs : g.sig c = 46) : g.passN c = 2 ↔ g.Path (c, 0) (c, 1) := by
  rw [Gr.self_all hg hc]
  have hv : ∀ d, d < 4 → g.val (c, d) := fun d hd => ⟨hc, hd⟩
  constructor
  · intro h; exact h 1 (by omega)
  · intro h d hd
    have h0 : g.Path (c, 0) (c, 0) := .inl (.inl ⟨0, rfl⟩)
    have : d = 0 ∨ d = 1 ∨ d = 2 ∨ d = 3 := by omega
    rcases this with rfl | rfl | rfl | rfl
    · exact h0
    · exact h
    · have := (Gr.Path.revR hg (x := (c, 0)) (hv 0 (by omega))).2 h0
      rwa [Gr.rev_dot hg hs] at this
    · have := (Gr.Path.revR hg (x := (c, 0)) (hv 1 (by omega))).2 h
      rwa [Gr.rev_dot hg hs] at this
theorem Gr.crB_pass {c : Nat} (hc : c < g.n * g.m) : g.crB c = (g.sig c == 46 && decide (g.passN c < 2)) := by
  rw [Bool.eq_iff_iff, Gr.crB_iff, Bool.and_eq_true, beq_iff_eq, decide_eq_true_iff]
  refine and_congr_right fun hs => ?_
  have h1 := Gr.pass_dot hg hc hs
  have h2 := Gr.pass_bd hg hc
  rw [← h1]
  omega
theorem Gr.onB_rev {x : Stt} (hx : g.val x) : g.onB (g.rev x) = g.onB x := by
  rw [Bool.eq_iff_iff, Gr.onB_iff, Gr.onB_iff]
  constructor
  · intro h c; exact h ((Gr.rvs hg).cyc_r hx c)
  · intro h c
    have := (Gr.rvs hg).cyc_r (Gr.rev_val hg hx) c
    rw [Gr.rev_rev hg hx] at this
    exact h this
end
end Go.Proofs.Ytcigmmafmogmkaa
