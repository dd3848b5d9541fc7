/- Where beams end: plain facts. -/
import Derived.Test.YtebcnfemkchfjaaWayW
namespace Go.Proofs.Ytebcnfemkchfjaa
open Go.RowKit
set_option linter.unusedVariables false

theorem Gr.Beam.unique {g : Gr} {p K K' : Nat} {y y' : Stt} (h : g.Beam p K y) (h' : g.Beam p K' y') : K = K' ∧ y = y' := by
  have key : ∀ {K K' : Nat} {y y' : Stt}, g.Beam p K y → g.Beam p K' y' → ¬ K < K' := by
    intro K K' y y' h h' hlt
    obtain ⟨z, hz⟩ := iter_lt h'.way (K + 1) (by omega)
    obtain ⟨z', hz', hzz⟩ := iter_pred hz
    rw [h.way] at hz'
    cases hz'
    rw [h.last] at hzz
    cases hzz
  have e : K = K' := by
    have := key h h'
    have := key h' h
    omega
  subst e
  have h1 := h.way
  rw [h'.way] at h1
  exact ⟨rfl, (Option.some.inj h1).symm⟩
open Classical in
/-- The port where the beam from a port ends. -/
noncomputable def Gr.endOf (g : Gr) (p : Nat) : Nat := if h : ∃ q : Nat × Stt, g.Beam p q.1 q.2 then g.out h.choose.2 else 0
theorem Gr.endOf_eq {g : Gr} {p K : Nat} {y : Stt} (h : g.Beam p K y) : g.endOf p = g.out y := by
  have hx : ∃ q : Nat × Stt, g.Beam p q.1 q.2 := ⟨(K, y), h⟩
  unfold Gr.endOf
  rw [dif_pos hx, (hx.choose_spec.unique h).2]
/-- The ends of all beams. -/
noncomputable def Gr.endsTo (g : Gr) (j : Nat) : List Int := (List.range j).map fun p => (g.endOf p : Int)
theorem Gr.endsTo_length (g : Gr) (j : Nat) : (g.endsTo j).length = j := by simp [Gr.endsTo]
theorem Gr.endsTo_succ {g : Gr} {j K : Nat} {y : Stt} (h : g.Beam j K y) : g.endsTo j ++ [(g.out y : Int)] = g.endsTo (j + 1) := by
  simp [Gr.endsTo, List.range_succ, Gr.endOf_eq h]
/-- What was made behind a world that is as the first was. -/
theorem St.from {w0 w1 W : World} {segs : List Seg} (h : St w1 W segs) (h0 : St w0 w1 []) : St w0 W segs :=
  ⟨h0.below.trans (h.below.mono h0.size), fun s hs => (h.own s hs).mono h0.size, h.apart⟩
end Go.Proofs.Ytebcnfemkchfjaa
