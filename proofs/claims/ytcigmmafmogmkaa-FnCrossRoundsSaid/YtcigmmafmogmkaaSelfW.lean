/- Contracts: how often a beam crosses itself (l5Self, CrossSelf both). -/
import Derived.Test.YtcigmmafmogmkaaRoundL
import Derived.Test.YtcigmmafmogmkaaTimesW
namespace Go.Proofs.Ytcigmmafmogmkaa
open Go.RowKit
set_option linter.unusedVariables false
set_option linter.unusedSimpArgs false

theorem Gr.selfS_le (g : Gr) (p k : Nat) : g.selfS p k ≤ k * (g.wayI p).length := by
  refine sumN_bound fun i _ => ?_
  have := List.count_le_length (a := ((((g.wayI p).getD i 0).toNat : Nat) : Int)) (l := g.wayI p)
  split <;> omega

/-- What CrossSelf tells. -/
noncomputable def selfL (ss : List ByteArray) (p : Int) : Int := if wayB ss p = true then ((gr ss).selfN p.toNat : Nat) else 0
end Go.Proofs.Ytcigmmafmogmkaa
