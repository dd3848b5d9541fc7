/- What the law on joins without crossings asks: plain facts. -/
import Derived.Test.YtfpcfolcdpdomaaPlanar2L
namespace Go.Proofs.Ytfpcfolcdpdomaa
set_option linter.unusedVariables false
set_option linter.unusedSimpArgs false

theorem chords_law {n m k : Int} {xs ys : List Int} (h : twoB n m xs k ys = true) :
    pairsB xs = true ∧ pairsB ys = true ∧ pairsB (jpairL n m xs k ys) = true ∧ (0 < chordsN xs ∨ (chordsN xs = 0 ∧ 0 < chordsN ys) ∨ (chordsN xs = 0 ∧ chordsN ys = 0 ∧ chordsN (jpairL n m xs k ys) = 0)) := by
  have j := join_law h
  have px := (ofB_iff.1 j.1).2.2.2.2.2
  have py := (ofB_iff.1 j.2.1).2.2.2.2.2
  have pj := j.2.2.2.2.2.1
  have bx := (chordsN_bound px).1
  have byy := (chordsN_bound py).1
  refine ⟨px, py, pj, ?_⟩
  by_cases hx : chordsN xs = 0
  · by_cases hy : chordsN ys = 0
    · refine .inr (.inr ⟨hx, hy, (chords_zero pj).2 ?_⟩)
      obtain ⟨n, m, k, rfl, rfl, rfl, hT, lx, ly, px, py⟩ := twoB_two h
      have e1 : jpairL n m xs k ys = joinL n m k xs ys := by simp [jpairL, h]
      rw [e1]
      exact join_nc hT lx ly px py ((chords_zero px).1 hx) ((chords_zero py).1 hy)
    · exact .inr (.inl ⟨hx, by omega⟩)
  · exact .inl (by omega)
end Go.Proofs.Ytfpcfolcdpdomaa
