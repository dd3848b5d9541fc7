/- Contracts: GridPut, RoundPaths, the laws' total. -/
import Derived.Test.YtmlenaelijchjaaPathManyW
import Derived.Test.YtmlenaelijchjaaPut2W
import Derived.Test.YtmlenaelijchjaaAfterW
namespace Go.Proofs.Ytmlenaelijchjaa
open Go.RowKit
set_option linter.unusedVariables false
set_option linter.unusedSimpArgs false

end Go.Proofs.Ytmlenaelijchjaa
