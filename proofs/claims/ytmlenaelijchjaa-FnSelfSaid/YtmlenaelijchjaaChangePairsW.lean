/- Contracts: how many partners a cell's exchange changes (ChangePairs both). -/
import Derived.Test.YtmlenaelijchjaaPut2W
import Derived.Test.YtmlenaelijchjaaRv
namespace Go.Proofs.Ytmlenaelijchjaa
open Go.RowKit
set_option linter.unusedVariables false
set_option linter.unusedSimpArgs false

/-- At how many ports the beams of two grids end otherwise. -/
noncomputable def chgN (g g' : Gr) : Nat := cntN (fun p => !(g.endOf p == g'.endOf p)) g.ports
noncomputable def chgL (ss : List ByteArray) (c : Int) : Int := if mirB ss c = true then (chgN (gr ss) (gr (putS ss c.toNat (exch ((gr ss).sig c.toNat)))) : Nat) else 0
theorem mirB_nat {ss : List ByteArray} {c : Int} (h : mirB ss c = true) : gridB ss = true ∧ ∃ q : Nat, c = q ∧ q < (gr ss).n * (gr ss).m ∧ (gr ss).sig q ≠ 46 := by
  simp only [mirB, Bool.and_eq_true, Bool.not_eq_true', beq_eq_false_iff_ne] at h
  obtain ⟨hg, q, rfl, hq⟩ := cellB_nat h.1
  exact ⟨hg, q, rfl, hq, h.2⟩
theorem putS_sides {ss : List ByteArray} (hg : gridB ss = true) (cell : Nat) (L : Int) : (gr (putS ss cell L)).n = (gr ss).n ∧ (gr (putS ss cell L)).m = (gr ss).m := by
  have hok := gr_ok hg
  refine ⟨gridT_length _ _ _, ?_⟩
  show (rowOf (putS ss cell L) 0).size = _
  unfold putS
  rw [gridT_row hok.n1, rowT_size]
theorem putS_ports {ss : List ByteArray} (hg : gridB ss = true) (cell : Nat) (L : Int) : (gr (putS ss cell L)).ports = (gr ss).ports := by
  have h := putS_sides hg cell L
  unfold Gr.ports
  rw [h.1, h.2]

end Go.Proofs.Ytmlenaelijchjaa
