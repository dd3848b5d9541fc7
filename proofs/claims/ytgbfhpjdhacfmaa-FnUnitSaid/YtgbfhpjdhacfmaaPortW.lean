/- Contracts: ports and where their beams end (portOk, BeamEnd). -/
import Derived.Test.YtgbfhpjdhacfmaaPairsBW
namespace Go.Proofs.Ytgbfhpjdhacfmaa
open Go.RowKit
set_option linter.unusedVariables false

end Go.Proofs.Ytgbfhpjdhacfmaa
