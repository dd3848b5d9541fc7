/- Where a beam ends, one begins: plain facts. -/
import Derived.Test.YtebcnfemkchfjaaRevL
namespace Go.Proofs.Ytebcnfemkchfjaa
set_option linter.unusedVariables false
set_option linter.unusedSectionVars false

section
variable {g : Gr} (hg : g.ok)
include hg
theorem Gr.ent_out {y : Stt} (h : g.val y) (e : g.nx y = none) : g.out y < g.ports ∧ g.ent (g.out y) = g.rev y := by
  have hr := Gr.row_lt hg h.1
  have hc := Gr.col_lt hg y.1
  have hx := Gr.cell_eq hg y.1
  have hD := Gr.dir_lt h
  have hn := hg.n1
  have hm := hg.m1
  have hrev : g.rev y = (y.1, opp (g.dir y)) := rfl
  rw [hrev]
  unfold Gr.nx at e
  unfold Gr.out
  have hD2 : g.dir y = 0 ∨ g.dir y = 1 ∨ g.dir y = 2 ∨ g.dir y = 3 := by omega
  generalize g.dir y = D at *
  generalize y.1 / g.m = i at *
  generalize y.1 % g.m = k at *
  rcases hD2 with rfl | rfl | rfl | rfl
  · have hi : i = 0 := by
      simp at e
      exact e
    subst hi
    refine ⟨by simp [Gr.ports]; omega, ?_⟩
    simp [Gr.ent, opp, hc]
    omega
  · have hk : k = g.m - 1 := by
      simp at e
      exact e
    refine ⟨by simp [Gr.ports]; omega, ?_⟩
    simp [Gr.ent, opp, hr]
    rw [if_neg (by omega)]
    refine Prod.ext ?_ rfl
    show i * g.m + g.m - 1 = y.1
    omega
  · have hi : i = g.n - 1 := by
      simp at e
      exact e
    refine ⟨by simp [Gr.ports]; omega, ?_⟩
    simp only [Gr.ent, opp]
    simp
    rw [if_neg (by omega), if_neg (by omega), if_pos (by omega)]
    simp
    rw [← hx, hi]
    omega
  · have hk : k = 0 := by
      simp at e
      exact e
    refine ⟨by simp [Gr.ports]; omega, ?_⟩
    simp only [Gr.ent, opp]
    simp
    rw [if_neg (by omega), if_neg (by omega), if_neg (by omega)]
    simp
    rw [← hx, hk, show g.n - 1 - (2 * g.m + g.n + g.n - 1 - i - 2 * g.m - g.n) = i by omega]
    rfl
theorem Gr.out_ent {p : Nat} (hp : p < g.ports) : g.nx (g.rev (g.ent p)) = none ∧ g.out (g.rev (g.ent p)) = p := by
  have hv := Gr.ent_val hg hp
  have hd := Gr.dir_rev hg hv
  obtain ⟨e1, hi, hk, hd4⟩ := Gr.en3_ent hg hp
  have h1 : (g.rev (g.ent p)).1 = (en3 g.n g.m p).1 * g.m + (en3 g.n g.m p).2.1 := by
    show (g.ent p).1 = _
    rw [e1]
  have h2 : (g.ent p).2 = (en3 g.n g.m p).2.2 := by rw [e1]
  rw [h2] at hd
  unfold Gr.nx Gr.out
  rw [hd, h1, Gr.div_of hg hk, Gr.mod_of hg hk]
  have hn := hg.n1
  have hm := hg.m1
  unfold Gr.ports at hp
  clear hd h1 h2 e1 hi hk hd4 hv
  unfold en3
  split
  · simp [opp]
  · split
    · simp [opp]; omega
    · split
      · simp [opp]; omega
      · simp [opp]; omega
end
end Go.Proofs.Ytebcnfemkchfjaa
