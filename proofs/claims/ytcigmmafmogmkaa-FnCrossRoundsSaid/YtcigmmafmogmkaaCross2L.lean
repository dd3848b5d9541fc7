/- Plain: the laws on all crossings. -/
import Derived.Test.YtcigmmafmogmkaaCrossLawL
import Derived.Test.YtcigmmafmogmkaaLevelL
namespace Go.Proofs.Ytcigmmafmogmkaa
set_option linter.unusedVariables false
set_option linter.unusedSimpArgs false
set_option linter.unusedSectionVars false

theorem total_law {ss : List ByteArray} (hg : gridB ss = true) : ∃ E : Nat, (gr ss).crN (gr ss).totB = (gr ss).crN (gr ss).bmB + 2 * E ∧ (gr ss).crN (gr ss).totB + (gr ss).mirN ≤ (gr ss).n * (gr ss).m := by
  have hok := gr_ok hg
  have h1 : cntN (fun c => (gr ss).crB c && !(gr ss).bmB c) ((gr ss).n * (gr ss).m) % 2 = 0 := by
    rw [cntN_congr fun c hc => (Gr.crB_lv hok hc).1]
    exact Gr.lvG_even hok 0
  have h2 : (gr ss).crN (gr ss).bmB + cntN (fun c => (gr ss).crB c && !(gr ss).bmB c) ((gr ss).n * (gr ss).m) = (gr ss).crN (gr ss).totB := by
    unfold Gr.crN
    rw [cntN_disj fun c _ h => by
      have := h.1
      have := h.2
      revert this
      cases (gr ss).crB c <;> cases (gr ss).bmB c <;> simp_all]
    refine cntN_congr fun c _ => ?_
    unfold Gr.totB
    cases (gr ss).crB c <;> cases (gr ss).bmB c <;> rfl
  refine ⟨cntN (fun c => (gr ss).crB c && !(gr ss).bmB c) ((gr ss).n * (gr ss).m) / 2, by omega, Gr.cr_mir hok _⟩
theorem rounds_law {ss : List ByteArray} (hg : gridB ss = true) : (∃ E : Nat, (gr ss).crN (gr ss).rdB = 2 * E) ∧ (gr ss).crN (gr ss).rdB + (gr ss).crN (gr ss).bmB ≤ (gr ss).crN (gr ss).totB := by
  have hok := gr_ok hg
  have h1 : (gr ss).crN (gr ss).rdB % 2 = 0 := by
    unfold Gr.crN
    rw [cntN_congr fun c hc => (Gr.crB_lv hok hc).2]
    exact Gr.lvG_even hok 1
  refine ⟨⟨(gr ss).crN (gr ss).rdB / 2, by omega⟩, ?_⟩
  unfold Gr.crN
  rw [cntN_disj fun c _ h => by
    have h1 := h.1
    have h2 := h.2
    unfold Gr.rdB at h1
    unfold Gr.bmB at h2
    revert h1 h2
    cases (gr ss).crB c <;> cases (gr ss).onB (c, 0) <;> cases (gr ss).onB (c, 1) <;> simp]
  refine cntN_sub fun c _ h => ?_
  unfold Gr.totB
  rw [Bool.and_true]
  revert h
  cases (gr ss).crB c <;> simp
end Go.Proofs.Ytcigmmafmogmkaa
