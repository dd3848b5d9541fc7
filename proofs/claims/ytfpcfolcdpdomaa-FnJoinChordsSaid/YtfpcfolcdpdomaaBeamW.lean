/- Contract: the steps of a beam (beam). -/
import Derived.Test.YtfpcfolcdpdomaaAfter2W
import Derived.Test.YtfpcfolcdpdomaaStS
namespace Go.Proofs.Ytfpcfolcdpdomaa
open Go.RowKit
set_option linter.unusedVariables false

/-- The first j states of the way from x. -/
def Gr.wayTo (g : Gr) (x : Stt) (j : Nat) : List Stt := (List.range j).map fun i => (iter g.nx i x).getD x
theorem Gr.wayTo_length (g : Gr) (x : Stt) (j : Nat) : (g.wayTo x j).length = j := by simp [Gr.wayTo]
theorem Gr.wayTo_succ {g : Gr} {x y : Stt} {j : Nat} (h : iter g.nx j x = some y) : g.wayTo x j ++ [y] = g.wayTo x (j + 1) := by
  simp [Gr.wayTo, List.range_succ, h]

def lenV : Value → Nat | .slice _ n _ => n | _ => 0

/-- How a beam goes: so many steps on, the last state, the port. -/
structure Gr.Beam (g : Gr) (p K : Nat) (y : Stt) : Prop where
  lt : K < 100
  way : iter g.nx K (g.ent p) = some y
  last : g.nx y = none

theorem Gr.beam_of {g : Gr} (hg : g.ok) {p : Nat} (hp : p < g.ports) : ∃ K y, g.Beam p K y := by
  obtain ⟨K, y, hK, h1, h2⟩ := Gr.beam_ends hg hp
  have := Gr.size_le hg
  exact ⟨K, y, by omega, h1, h2⟩
end Go.Proofs.Ytfpcfolcdpdomaa
