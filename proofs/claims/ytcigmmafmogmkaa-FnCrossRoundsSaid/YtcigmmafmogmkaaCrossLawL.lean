/- Plain: crossings of beams and chords; crossings and mirrors. -/
import Derived.Test.YtcigmmafmogmkaaCrossBL
import Derived.Test.YtcigmmafmogmkaaCrossIW
import Derived.Test.YtcigmmafmogmkaaChordsL
import Derived.Test.YtcigmmafmogmkaaTwiceW
import Derived.Test.YtcigmmafmogmkaaCellW
namespace Go.Proofs.Ytcigmmafmogmkaa
set_option linter.unusedVariables false
set_option linter.unusedSimpArgs false
set_option linter.unusedSectionVars false

theorem cntN_sub {P Q : Nat → Bool} : ∀ {n : Nat}, (∀ c, c < n → P c = true → Q c = true) → cntN P n ≤ cntN Q n := by
  intro n h
  refine sumN_le fun c hc => ?_
  cases hp : P c
  · simp
  · rw [h c hc hp]; exact Nat.le_refl _
theorem cntN_disj {P Q : Nat → Bool} {n : Nat} (h : ∀ c, c < n → ¬ (P c = true ∧ Q c = true)) : cntN P n + cntN Q n = cntN (fun c => P c || Q c) n := by
  unfold cntN
  rw [← sumN_add]
  refine sumN_congr fun c hc => ?_
  have := h c hc
  cases hp : P c <;> cases hq : Q c <;> simp [hp, hq] at this ⊢
theorem par_sum {f c : Nat → Nat} : ∀ {n : Nat}, (∀ i, i < n → ∃ t, f i = c i + 2 * t) → ∃ t, sumN f n = sumN c n + 2 * t := by
  intro n
  induction n with
  | zero => intro _; exact ⟨0, rfl⟩
  | succ n ih =>
    intro h
    obtain ⟨t, ht⟩ := ih fun i hi => h i (by omega)
    obtain ⟨u, hu⟩ := h n (by omega)
    refine ⟨t + u, ?_⟩
    show sumN f n + f n = sumN c n + c n + 2 * (t + u)
    omega
section
variable {g : Gr} (hg : g.ok)
include hg
/-- Cells with mirrors. -/
theorem Gr.mirN_cnt : g.mirN = cntN (fun c => !(g.sig c == 46)) (g.n * g.m) := by
  unfold Gr.mirN Gr.mirR cntN
  exact sumN_rows hg.m1 (fun i k => if (!(g.lt i k == 46)) = true then 1 else 0) g.n
theorem Gr.cr_mir (F : Nat → Bool) : g.crN F + g.mirN ≤ g.n * g.m := by
  rw [Gr.mirN_cnt hg]
  unfold Gr.crN
  rw [cntN_disj]
  · exact cntN_le _ _
  · intro c _ h
    have h1 := (Gr.crB_iff.1 (by have := h.1; rw [Bool.and_eq_true] at this; exact this.1)).1
    rw [h1] at h
    simp at h
theorem Gr.chAt_ends {p q : Nat} (hp : p < g.ports) (hq : q < g.ports) : chAt (g.endsTo g.ports) p q = (decide (p < q) && decide (q < g.endOf p) && decide (g.endOf p < g.endOf q)) := by
  unfold chAt
  rw [Gr.endsTo_getD hg hp, Gr.endsTo_getD hg hq]
  have e1 : decide ((p : Int) < (q : Int)) = decide (p < q) := by rw [Bool.eq_iff_iff, decide_eq_true_iff, decide_eq_true_iff]; omega
  have e2 : decide ((q : Int) < (g.endOf p : Int)) = decide (q < g.endOf p) := by rw [Bool.eq_iff_iff, decide_eq_true_iff, decide_eq_true_iff]; omega
  have e3 : decide ((g.endOf p : Int) < (g.endOf q : Int)) = decide (g.endOf p < g.endOf q) := by rw [Bool.eq_iff_iff, decide_eq_true_iff, decide_eq_true_iff]; omega
  rw [e1, e2, e3]
/-- Two beams cross as often, but for an even number, as their chords. -/
theorem Gr.term_par {p q : Nat} (hp : p < g.ports) (hq : q < g.ports) :
    ∃ t, (if (decide (p < q) && (g.lessB p && g.lessB q)) = true then g.betwN p q else 0) = (if chAt (g.endsTo g.ports) p q = true then 1 else 0) + 2 * t := by
  obtain ⟨a1, a2, a3⟩ := Gr.endOf_pair hg hp
  obtain ⟨b1, b2, b3⟩ := Gr.endOf_pair hg hq
  rw [Gr.chAt_ends hg hp hq]
  by_cases hc : p < q ∧ p < g.endOf p ∧ q < g.endOf q
  · obtain ⟨h1, h2, h3⟩ := hc
    have hne : p ≠ q := by omega
    have hne2 : g.endOf p ≠ q := fun e => by rw [e] at a3; omega
    have ho := Gr.betw_odd hg hp hq hne hne2
    have l1 : g.lessB p = true := decide_eq_true h2
    have l2 : g.lessB q = true := decide_eq_true h3
    rw [decide_eq_true h1, l1, l2]
    rw [decide_eq_true h1, decide_eq_true (show p < g.endOf q by omega)] at ho
    simp only [Bool.and_self, if_true, Bool.true_and]
    refine ⟨g.betwN p q / 2, ?_⟩
    by_cases x : g.endOf p < q
    · rw [decide_eq_true x, decide_eq_true (show g.endOf p < g.endOf q by omega)] at ho
      have : g.betwN p q % 2 ≠ 1 := by simpa using ho
      rw [decide_eq_false (show ¬ q < g.endOf p by omega)]
      simp
      omega
    · rw [decide_eq_false x] at ho
      rw [decide_eq_true (show q < g.endOf p by omega)]
      by_cases y : g.endOf p < g.endOf q
      · rw [decide_eq_true y] at ho ⊢
        have : g.betwN p q % 2 = 1 := by simpa using ho
        simp
        omega
      · rw [decide_eq_false y] at ho ⊢
        have : g.betwN p q % 2 ≠ 1 := by simpa using ho
        simp
        omega
  · have e1 : (decide (p < q) && (g.lessB p && g.lessB q)) = false := by
      cases h : (decide (p < q) && (g.lessB p && g.lessB q))
      · rfl
      · simp only [Bool.and_eq_true, decide_eq_true_iff, Gr.lessB] at h
        exact absurd ⟨h.1, h.2.1, h.2.2⟩ hc
    have e2 : (decide (p < q) && decide (q < g.endOf p) && decide (g.endOf p < g.endOf q)) = false := by
      cases h : (decide (p < q) && decide (q < g.endOf p) && decide (g.endOf p < g.endOf q))
      · rfl
      · simp only [Bool.and_eq_true, decide_eq_true_iff] at h
        exact absurd ⟨h.1.1, by omega, by omega⟩ hc
    rw [e1, e2]
    exact ⟨0, rfl⟩
theorem Gr.beams_par : ∃ t, g.crN g.bmB = chTo (g.endsTo g.ports) g.ports + 2 * t := by
  rw [← Gr.pairB_eq hg, chTo_sum, Gr.endsTo_length]
  unfold Gr.pairB Gr.rowB cntN
  exact par_sum fun p hp => par_sum fun q hq => Gr.term_par hg hp hq
end
/-- The facts for the law on beams. -/
theorem beams_law {ss : List ByteArray} (hg : gridB ss = true) : pairsB (beamsB ss) = true ∧ ∃ C t : Nat, chordsN (beamsB ss) = (C : Nat) ∧ (gr ss).crN (gr ss).bmB = C + 2 * t ∧ (gr ss).crN (gr ss).bmB + (gr ss).mirN ≤ (gr ss).n * (gr ss).m := by
  have hok := gr_ok hg
  have hL : beamsB ss = (gr ss).endsTo (gr ss).ports := by simp [beamsB, hg]
  have hp : pairsB (beamsB ss) = true := by rw [hL]; exact Gr.ends_pairs hok
  obtain ⟨t, ht⟩ := Gr.beams_par hok
  refine ⟨hp, chTo ((gr ss).endsTo (gr ss).ports) (gr ss).ports, t, ?_, ht, Gr.cr_mir hok _⟩
  unfold chordsN
  rw [hp, hL, Gr.endsTo_length]
  rfl
end Go.Proofs.Ytcigmmafmogmkaa
