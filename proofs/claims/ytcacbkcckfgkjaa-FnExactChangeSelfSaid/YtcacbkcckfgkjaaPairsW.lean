/- Contracts: which lists are pairings. -/
import Derived.Test.YtcacbkcckfgkjaaRv
namespace Go.Proofs.Ytcacbkcckfgkjaa
open Go.RowKit

end Go.Proofs.Ytcacbkcckfgkjaa
