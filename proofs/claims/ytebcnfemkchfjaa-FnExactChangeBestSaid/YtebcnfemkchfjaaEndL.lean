/- The beams of a grid pair its ports: plain facts. -/
import Derived.Test.YtebcnfemkchfjaaRev2L
import Derived.Test.YtebcnfemkchfjaaRv
import Derived.Test.YtebcnfemkchfjaaPairsL
namespace Go.Proofs.Ytebcnfemkchfjaa
set_option linter.unusedVariables false
set_option linter.unusedSimpArgs false
set_option linter.unusedSectionVars false

section
variable {g : Gr} (hg : g.ok)
include hg
theorem Gr.rvs : Rv g.nx g.rev g.val (fun x => 4 * x.1 + x.2) (4 * (g.n * g.m)) where
  stay := fun x y hx e => Gr.nx_val hg hx e
  rv := fun x hx => Gr.rev_val hg hx
  rr := fun x hx => Gr.rev_rev hg hx
  back := fun x y hx e => Gr.nx_rev hg hx e
  code_lt := (Gr.steps hg).code_lt
  code_inj := (Gr.steps hg).code_inj
theorem Gr.nx_ne_cell {x y : Stt} (h : g.val x) (e : g.nx x = some y) : y.1 ≠ x.1 := by
  have hm := hg.m1
  unfold Gr.nx at e
  split at e
  · split at e
    · cases e
    · rename_i h0 h1
      cases e
      have : g.m ≤ x.1 := by
        have := Nat.div_pos_iff.1 (Nat.pos_of_ne_zero h1)
        exact this.2
      simp; omega
  · split at e
    · split at e
      · cases e
      · cases e; simp
    · split at e
      · split at e
        · cases e
        · cases e; simp; omega
      · split at e
        · cases e
        · rename_i h3
          cases e
          have : 1 ≤ x.1 := by
            have : x.1 % g.m ≤ x.1 := Nat.mod_le _ _
            omega
          simp; omega
theorem Gr.no_turn : ∀ k x, g.val x → iter g.nx k x ≠ some (g.rev x) :=
  (Gr.rvs hg).no_turn (fun x hx => Gr.rev_ne hg hx) fun x hx e => Gr.nx_ne_cell hg hx e rfl
theorem Gr.beam_val {p K : Nat} {y : Stt} (hp : p < g.ports) (h : g.Beam p K y) : g.val y := (Gr.rvs hg).steps.iter_stay K _ y (Gr.ent_val hg hp) h.way
/-- The beam back. -/
theorem Gr.beam_back {p K : Nat} {y : Stt} (hp : p < g.ports) (h : g.Beam p K y) : g.out y < g.ports ∧ g.Beam (g.out y) K (g.rev (g.ent p)) := by
  have hv := Gr.beam_val hg hp h
  obtain ⟨h1, h2⟩ := Gr.ent_out hg hv h.last
  refine ⟨h1, h.lt, ?_, (Gr.out_ent hg hp).1⟩
  rw [h2]
  exact (Gr.rvs hg).iter_back K _ y (Gr.ent_val hg hp) h.way
theorem Gr.endOf_pair {p : Nat} (hp : p < g.ports) : g.endOf p < g.ports ∧ g.endOf p ≠ p ∧ g.endOf (g.endOf p) = p := by
  obtain ⟨K, y, hB⟩ := Gr.beam_of hg hp
  obtain ⟨h1, h2⟩ := Gr.beam_back hg hp hB
  rw [Gr.endOf_eq hB]
  refine ⟨h1, fun e => ?_, ?_⟩
  · have hv := Gr.beam_val hg hp hB
    have h3 := (Gr.ent_out hg hv hB.last).2
    rw [e] at h3
    have h4 := hB.way
    rw [show y = g.rev (g.ent p) by rw [h3, Gr.rev_rev hg hv]] at h4
    exact Gr.no_turn hg K _ (Gr.ent_val hg hp) h4
  · rw [Gr.endOf_eq h2, (Gr.out_ent hg hp).2]
theorem Gr.ports_bd : 4 ≤ g.ports ∧ g.ports ≤ 20 := by
  have := hg.n1
  have := hg.n5
  have := hg.m1
  have := hg.m5
  unfold Gr.ports
  omega
theorem Gr.endsTo_getD {j p : Nat} (h : p < j) : (g.endsTo j).getD p 0 = (g.endOf p : Nat) := by simp [Gr.endsTo, h]
theorem Gr.ends_pairs : pairsB (g.endsTo g.ports) = true := by
  have hb := Gr.ports_bd hg
  refine pairsB_iff.2 ⟨fun p hp => ?_, inB_iff.2 (by rw [Gr.endsTo_length]; omega)⟩
  rw [Gr.endsTo_length] at hp
  obtain ⟨h1, h2, h3⟩ := Gr.endOf_pair hg hp
  rw [okAt, Gr.endsTo_getD hg hp, Int.toNat_natCast, Gr.endsTo_getD hg h1, h3, Gr.endsTo_length]
  simp [inB]
  omega
end
end Go.Proofs.Ytebcnfemkchfjaa
