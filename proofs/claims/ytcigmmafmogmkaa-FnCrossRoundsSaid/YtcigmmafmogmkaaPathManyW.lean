/- Contracts: the number of rounds, the number of paths (roundMany, pathMany; l3Paths). -/
import Derived.Test.YtcigmmafmogmkaaAllPathsW
import Derived.Test.YtcigmmafmogmkaaRounds3W
namespace Go.Proofs.Ytcigmmafmogmkaa
open Go.RowKit
set_option linter.unusedVariables false
set_option linter.unusedSimpArgs false

/-- The number of paths. -/
noncomputable def Gr.pmany (g : Gr) : Nat := g.rmany + g.n + g.m
theorem Gr.rmany_le {g : Gr} (hg : g.ok) : g.rmany ≤ 100 := by
  have := Gr.reps_le' g (4 * (g.n * g.m))
  have := Gr.size_le hg
  unfold Gr.rmany; omega

end Go.Proofs.Ytcigmmafmogmkaa
