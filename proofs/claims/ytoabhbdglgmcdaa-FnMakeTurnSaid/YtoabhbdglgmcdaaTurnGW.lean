/- Contracts: grids turned and flipped (GridTurn, GridFlip). -/
import Derived.Test.YtoabhbdglgmcdaaPut2W
import Derived.Deep.RegionWith
namespace Go.Proofs.Ytoabhbdglgmcdaa
open Go.RowKit
set_option linter.unusedVariables false
set_option linter.unusedSimpArgs false

def turnF (ss : List ByteArray) (r c : Nat) : Int := exch ((gr ss).lt ((gr ss).n - 1 - c) r)
def flipF (ss : List ByteArray) (r c : Nat) : Int := exch ((gr ss).lt r ((gr ss).m - 1 - c))
def turnS (ss : List ByteArray) : List ByteArray := if gridB ss = true then gridT (gr ss).m (gr ss).n (turnF ss) else []
def flipS (ss : List ByteArray) : List ByteArray := if gridB ss = true then gridT (gr ss).n (gr ss).m (flipF ss) else []

end Go.Proofs.Ytoabhbdglgmcdaa
