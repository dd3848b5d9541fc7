/- Contracts: which lists are pairings. -/
import Derived.Test.YtmlenaelijchjaaRv
namespace Go.Proofs.Ytmlenaelijchjaa
open Go.RowKit

end Go.Proofs.Ytmlenaelijchjaa
