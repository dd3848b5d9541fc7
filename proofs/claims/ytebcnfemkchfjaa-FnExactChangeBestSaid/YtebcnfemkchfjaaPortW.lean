/- Contracts: ports and where their beams end (portOk, BeamEnd). -/
import Derived.Test.YtebcnfemkchfjaaPairsBW
namespace Go.Proofs.Ytebcnfemkchfjaa
open Go.RowKit
set_option linter.unusedVariables false

end Go.Proofs.Ytebcnfemkchfjaa
