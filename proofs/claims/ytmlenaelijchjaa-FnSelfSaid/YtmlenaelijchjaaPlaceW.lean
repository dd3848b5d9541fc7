/- Contracts: the side and the place of a port, and back (placeOf, portOf). -/
import Derived.Test.YtmlenaelijchjaaStS
namespace Go.Proofs.Ytmlenaelijchjaa
open Go.RowKit
set_option linter.unusedVariables false

def sideI (n m p : Int) : Int := if p < m then 0 else if p < m + n then 1 else if p < 2 * m + n then 2 else 3
def atI (n m p : Int) : Int := if p < m then p else if p < m + n then p - m else if p < 2 * m + n then m - 1 - (p - m - n) else n - 1 - (p - 2 * m - n)
def portI (n m s a : Int) : Int := if s = 0 then a else if s = 1 then m + a else if s = 2 then m + n + m - 1 - a else 2 * m + n + n - 1 - a

end Go.Proofs.Ytmlenaelijchjaa
