/- Beams backwards: plain facts. -/
import Derived.Test.YtebcnfemkchfjaaPairsBL
namespace Go.Proofs.Ytebcnfemkchfjaa
set_option linter.unusedVariables false
set_option linter.unusedSectionVars false

/-- The other way. -/
def opp (d : Nat) : Nat := if d = 0 then 2 else if d = 1 then 3 else if d = 2 then 0 else 1
theorem bend_opp (c : Int) {d : Nat} (h : d < 4) : bend c (opp (bend c d)) = opp d := by
  have : d = 0 ∨ d = 1 ∨ d = 2 ∨ d = 3 := by omega
  unfold bend opp
  rcases this with rfl | rfl | rfl | rfl <;> (by_cases h1 : c = 114 <;> by_cases h2 : c = 102 <;> simp [h1, h2])
theorem bend_ne_opp (c : Int) {d : Nat} (h : d < 4) : bend c d ≠ opp d := by
  have : d = 0 ∨ d = 1 ∨ d = 2 ∨ d = 3 := by omega
  unfold bend opp
  rcases this with rfl | rfl | rfl | rfl <;> (by_cases h1 : c = 114 <;> by_cases h2 : c = 102 <;> simp [h1, h2])
theorem opp_opp {d : Nat} (h : d < 4) : opp (opp d) = d := by
  have : d = 0 ∨ d = 1 ∨ d = 2 ∨ d = 3 := by omega
  rcases this with rfl | rfl | rfl | rfl <;> rfl
theorem opp_lt (d : Nat) : opp d < 4 := by
  unfold opp
  repeat' split
  all_goals omega
def Gr.rev (g : Gr) (x : Stt) : Stt := (x.1, opp (g.dir x))

section
variable {g : Gr} (hg : g.ok)
include hg
theorem Gr.rev_val {x : Stt} (h : g.val x) : g.val (g.rev x) := ⟨h.1, opp_lt _⟩
theorem Gr.dir_rev {x : Stt} (h : g.val x) : g.dir (g.rev x) = opp x.2 := by
  show bend (g.lt (x.1 / g.m) (x.1 % g.m)) (opp (bend (g.lt (x.1 / g.m) (x.1 % g.m)) x.2)) = _
  exact bend_opp _ h.2
theorem Gr.rev_rev {x : Stt} (h : g.val x) : g.rev (g.rev x) = x := by
  show (x.1, opp (g.dir (g.rev x))) = x
  rw [Gr.dir_rev hg h, opp_opp h.2]
theorem Gr.rev_ne {x : Stt} (h : g.val x) : g.rev x ≠ x := by
  intro e
  have := congrArg Prod.snd e
  have h2 := congrArg opp this
  rw [show opp (g.rev x).2 = g.dir x from opp_opp (Gr.dir_lt h)] at h2
  exact bend_ne_opp _ h.2 h2
omit hg in
theorem st_back (i k : Int) {d : Nat} (h : d < 4) : stI (stI i d) (opp d) = i ∧ stK (stK k d) (opp d) = k := by
  have : d = 0 ∨ d = 1 ∨ d = 2 ∨ d = 3 := by omega
  rcases this with rfl | rfl | rfl | rfl <;> (simp [stI, stK, opp] <;> omega)
/-- A step is its own way back. -/
theorem Gr.nx_rev {x y : Stt} (h : g.val x) (e : g.nx x = some y) : g.nx (g.rev y) = some (g.rev x) := by
  have hy := Gr.nx_val hg h e
  have hr := Gr.row_lt hg h.1
  have hc := Gr.col_lt hg x.1
  have hx := Gr.cell_eq hg x.1
  have hD := Gr.dir_lt h
  have hxe : x = (x.1 / g.m * g.m + x.1 % g.m, x.2) := by rw [hx]
  have hdir : bend (g.lt (x.1 / g.m) (x.1 % g.m)) x.2 = g.dir x := rfl
  have h1 := Gr.nx_step hg hr hc h.2
  rw [← hxe, hdir] at h1
  rcases h1 with ⟨i', k', e1, e2, hi', hk', hn, _⟩ | ⟨hn, _⟩
  · rw [e] at hn
    have hye := Option.some.inj hn
    have hry : g.rev y = (i' * g.m + k', opp (g.dir y)) := by
      show (y.1, _) = _
      rw [hye]
    have h2 := Gr.nx_step hg hi' hk' (opp_lt (g.dir y))
    have hd2 : bend (g.lt i' k') (opp (g.dir y)) = opp (g.dir x) := by
      have := Gr.dir_rev hg hy
      rw [hry] at this
      unfold Gr.dir at this
      simp only [Gr.div_of hg hk', Gr.mod_of hg hk'] at this
      show bend (g.lt i' k') (opp (bend (g.lt (y.1 / g.m) (y.1 % g.m)) y.2)) = _
      rw [this, hye]
    dsimp only at h2
    rw [hd2, ← e1, ← e2, (st_back _ (x.1 % g.m : Nat) hD).1, (st_back (x.1 / g.m : Nat) _ hD).2, ← hry] at h2
    rcases h2 with ⟨i2, k2, f1, f2, _, _, f3, _⟩ | ⟨_, f4⟩
    · rw [f3]
      have g1 : i2 = x.1 / g.m := by omega
      have g2 : k2 = x.1 % g.m := by omega
      rw [g1, g2, hx]
      rfl
    · exfalso
      clear h hy hx hxe hdir e1 e2 hd2 hry
      generalize x.1 / g.m = q1 at f4 hr
      generalize x.1 % g.m = q2 at f4 hc
      unfold lv at f4
      rw [if_neg (by omega), if_neg (by omega), if_neg (by omega), if_neg (by omega)] at f4
      omega
  · rw [e] at hn
    cases hn
end
end Go.Proofs.Ytebcnfemkchfjaa
