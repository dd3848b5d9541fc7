/- The cells of a beam, and how often each comes: plain facts. -/
import Derived.Test.YtebcnfemkchfjaaEndL
import Derived.Test.YtebcnfemkchfjaaCellW
namespace Go.Proofs.Ytebcnfemkchfjaa
open Go.RowKit
set_option linter.unusedVariables false
set_option linter.unusedSimpArgs false

open Classical in
/-- How many cells the beam of a port goes through. -/
noncomputable def Gr.lenOf (g : Gr) (p : Nat) : Nat := if h : ∃ q : Nat × Stt, g.Beam p q.1 q.2 then h.choose.1 + 1 else 0
theorem Gr.lenOf_eq {g : Gr} {p K : Nat} {y : Stt} (h : g.Beam p K y) : g.lenOf p = K + 1 := by
  have hx : ∃ q : Nat × Stt, g.Beam p q.1 q.2 := ⟨(K, y), h⟩
  unfold Gr.lenOf
  rw [dif_pos hx, (hx.choose_spec.unique h).1]
/-- The states of a beam, and its cells. -/
noncomputable def Gr.wayOf (g : Gr) (p : Nat) : List Stt := g.wayTo (g.ent p) (g.lenOf p)
noncomputable def Gr.wayI (g : Gr) (p : Nat) : List Int := g.cellsTo (g.ent p) (g.lenOf p)
theorem Gr.wayI_eq (g : Gr) (p : Nat) : g.wayI p = (g.wayOf p).map fun y => (y.1 : Int) := rfl
/-- At a grid with this port its cells, else nothing. -/
noncomputable def wayB (ss : List ByteArray) (p : Int) : Bool := gridB ss && inB p 0 ((gr ss).ports - 1)
noncomputable def wayL (ss : List ByteArray) (p : Int) : List Int := if wayB ss p = true then (gr ss).wayI p.toNat else []
theorem wayB_nat {ss : List ByteArray} {p : Int} (h : wayB ss p = true) : gridB ss = true ∧ ∃ q : Nat, p = q ∧ q < (gr ss).ports := by
  simp only [wayB, Bool.and_eq_true, inB_iff] at h
  have := h.2
  exact ⟨h.1, p.toNat, by omega, by omega⟩

/-- How often each number below N comes. -/
def timesL (N : Nat) (xs : List Int) : List Int := (List.range N).map fun c : Nat => ((xs.count (c : Int) : Nat) : Int)
theorem timesL_length (N : Nat) (xs : List Int) : (timesL N xs).length = N := by simp [timesL]
theorem timesL_getD {N c : Nat} (xs : List Int) (h : c < N) : (timesL N xs).getD c 0 = ((xs.count (c : Int) : Nat) : Int) := by simp [timesL, h]
theorem timesL_nil (N : Nat) : timesL N [] = List.replicate N 0 := by
  apply List.ext_getElem <;> simp [timesL]
theorem timesL_set {N c : Nat} (xs : List Int) (h : c < N) : (timesL N xs).set c (((xs.count (c : Int) : Nat) : Int) + 1) = timesL N (xs ++ [(c : Int)]) := by
  apply List.ext_getElem
  · simp [timesL]
  · intro i h1 h2
    simp only [timesL, List.length_set, List.length_map, List.length_range] at h1
    rw [List.getElem_set]
    simp only [timesL, List.getElem_map, List.getElem_range, List.count_append]
    by_cases e : c = i
    · subst e; simp
    · have : ¬ ((c : Int) = (i : Int)) := by omega
      simp [e, List.count_cons, this]
theorem take_succ_getD {xs : List Int} {k : Nat} (h : k < xs.length) : xs.take (k + 1) = xs.take k ++ [xs.getD k 0] := by
  rw [List.take_succ_eq_append_getElem h]
  simp [h]
end Go.Proofs.Ytebcnfemkchfjaa
