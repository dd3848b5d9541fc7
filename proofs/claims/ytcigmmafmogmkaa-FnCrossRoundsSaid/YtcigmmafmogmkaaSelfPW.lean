/- Contracts: ChangeSelf of the program and of the reference. -/
import Derived.Test.YtcigmmafmogmkaaSelfPL
import Derived.Test.YtcigmmafmogmkaaAllPathsW
import Derived.Test.YtcigmmafmogmkaaRounds3W
import Derived.Test.YtcigmmafmogmkaaPut2W
import Derived.Test.YtcigmmafmogmkaaTimesW
import Derived.Test.YtcigmmafmogmkaaChangePairsW
import Derived.Deep.RegionHeld3
import Derived.Deep.DrawnRows
import Derived.Deep.LoopGhost
namespace Go.Proofs.Ytcigmmafmogmkaa
open Go.RowKit Go.Maps
set_option linter.unusedVariables false
set_option linter.unusedSimpArgs false
attribute [local go_sem ↓] Go.wp_at_zero Go.wp_at_succ

/-- Whether a cell's path goes twice through it. -/
noncomputable def selfB (ss : List ByteArray) (c : Int) : Bool := cellB ss c && ((gr ss).passN c.toNat == 2)

theorem IdMap.look {W : World} {B n : Nat} {f : Stt → Option Int} (h : IdMap W B n f) (y : Stt) {v : Int} (hf9 : f y = some v) (hy : y.1 ≤ 1000 ∧ y.2 ≤ 1000) :
    (Instr.lookup 58 (.map (some B)) (.agg #[.int .i64 y.1, .int .i64 y.2]) false).run Try.prog W = .ok (.int .i64 v) W := by
  obtain ⟨D, ho, hf⟩ := h
  obtain ⟨l, hl⟩ := step_key W y hy.1 hy.2
  obtain ⟨h1, h2⟩ := hf y l hl
  obtain ⟨c, hrun, hat, _⟩ := ho.lookup_int stepKeyed Try.underlying58 Try.underlying3 (zeroInt W) hl
  rw [h2, hf9] at hat
  have : v = c := by simpa using hat
  rw [this]
  exact hrun

end Go.Proofs.Ytcigmmafmogmkaa
