/- Contracts: a cell's letter, how many cells there are, given ports and cells (letterAt, l2Cell, cells, l2Given). -/
import Derived.Test.YtgbfhpjdhacfmaaPairsBW
namespace Go.Proofs.Ytgbfhpjdhacfmaa
open Go.RowKit
set_option linter.unusedVariables false
set_option linter.unusedSimpArgs false

/-- The letter of a cell. -/
def Gr.sig (g : Gr) (c : Nat) : Int := g.lt (c / g.m) (c % g.m)

end Go.Proofs.Ytgbfhpjdhacfmaa
