/-
  No cell of these rows narrows 'for every input' (looked for: loops, veiled, ifaces, maps, wideKeys, modest, calm, conditions, laid).
  DERIVED. THE GIVEN ROWS OF THIS SEAT. 8 by the template 'for every input the law returns true; each argument reads behind the call as it read before'; 0 by the template 'total and deterministic' (their statements: YtecnmikfaoankaaTotals.lean).
  GIVEN WITH THE SEED: the statements are not yours to turn. If you find one false, say at which input.
  Laid BY PROGRAM, IN A SANDBOX (cutbox-rows.mjs): the forced cells as the released guide's own fill.sh prints them over the translation c71c11bf8a27c104… (all of the seat's roots in one cut). By AI agents, Wed Nov 11 2026. No macro, syntax, notation, axiom, sorry.
-/
import Derived.Test.YtecnmikfaoankaaChecked
import GoSem.Claim
import GoSem.ClaimJoined
import GoSem.ClaimMapViews
import Derived.JoinedTies
import Derived.KernelRfl
namespace Go.Proofs.Ytecnmikfaoankaa
/- THE CELL 'sum', in the pinned program and in every row, IS THE sha256 OF THE DUMP (.gsa) THAT YtecnmikfaoankaaProg.lean LOADS. Nothing in Lean hashes anything: it is a label: what it is worth is what the hold of that sum in a sandbox is worth. -/
noncomputable def Try.pinned : Pinned := { name := "ytecnmikfaoankaa", sum := "c71c11bf8a27c10480b574e8351b6c21fa5c81da0dc313fdb37d3279fbea499e", checked := Try.checked }
namespace Rows
def none {H : Type} : Left H := { results := [], args := [] }

/-- 'laws.FnExactCrossSelf': WHATEVER THE INPUT: true; the input reads as it did. -/
def fnExactCrossSelfSpec : ChangeSpec := { name := "fnExactCrossSelf", fn := fun _ => fun
  | [d1, d2] => { results := [.lit (.bool true)], args := [d1, d2] }
  | _ => none }
def fnExactCrossSelfRow : OpenClaim := { program := "ytecnmikfaoankaa", sum := "c71c11bf8a27c10480b574e8351b6c21fa5c81da0dc313fdb37d3279fbea499e", func := "loop.example/mirrorgrids/laws.FnExactCrossSelf", spec := "fnExactCrossSelf", apart := false }
def FnExactCrossSelfSaid : Prop := fnExactCrossSelfRow.holds Try.pinned (OpenSpec.ofChange fnExactCrossSelfSpec)

/-- ITS FALSE NEIGHBOUR: 'it returns false'. Refute it at one input. -/
def fnExactCrossSelfWrong : ChangeSpec := { name := "fnExactCrossSelf", fn := fun _ => fun
  | [d1, d2] => { results := [.lit (.bool false)], args := [d1, d2] }
  | _ => none }
def FnExactCrossSelfWrongFalsely : Prop := fnExactCrossSelfRow.holds Try.pinned (OpenSpec.ofChange fnExactCrossSelfWrong)

/-- 'laws.FnExactCrossBetween': WHATEVER THE INPUT: true; the input reads as it did. -/
def fnExactCrossBetweenSpec : ChangeSpec := { name := "fnExactCrossBetween", fn := fun _ => fun
  | [d1, d2, d3] => { results := [.lit (.bool true)], args := [d1, d2, d3] }
  | _ => none }
def fnExactCrossBetweenRow : OpenClaim := { program := "ytecnmikfaoankaa", sum := "c71c11bf8a27c10480b574e8351b6c21fa5c81da0dc313fdb37d3279fbea499e", func := "loop.example/mirrorgrids/laws.FnExactCrossBetween", spec := "fnExactCrossBetween", unfollowed := true, recurses := true, apart := false }
def FnExactCrossBetweenSaid : Prop := fnExactCrossBetweenRow.holds Try.pinned (OpenSpec.ofChange fnExactCrossBetweenSpec)

/-- ITS FALSE NEIGHBOUR: 'it returns false'. Refute it at one input. -/
def fnExactCrossBetweenWrong : ChangeSpec := { name := "fnExactCrossBetween", fn := fun _ => fun
  | [d1, d2, d3] => { results := [.lit (.bool false)], args := [d1, d2, d3] }
  | _ => none }
def FnExactCrossBetweenWrongFalsely : Prop := fnExactCrossBetweenRow.holds Try.pinned (OpenSpec.ofChange fnExactCrossBetweenWrong)

/-- 'laws.FnPairs': WHATEVER THE INPUT: true; the input reads as it did. -/
def fnPairsSpec : ChangeSpec := { name := "fnPairs", fn := fun _ => fun
  | [d] => { results := [.lit (.bool true)], args := [d] }
  | _ => none }
def fnPairsRow : OpenClaim := { program := "ytecnmikfaoankaa", sum := "c71c11bf8a27c10480b574e8351b6c21fa5c81da0dc313fdb37d3279fbea499e", func := "loop.example/mirrorgrids/laws.FnPairs", spec := "fnPairs", apart := false }
def FnPairsSaid : Prop := fnPairsRow.holds Try.pinned (OpenSpec.ofChange fnPairsSpec)

/-- ITS FALSE NEIGHBOUR: 'it returns false'. Refute it at one input. -/
def fnPairsWrong : ChangeSpec := { name := "fnPairs", fn := fun _ => fun
  | [d] => { results := [.lit (.bool false)], args := [d] }
  | _ => none }
def FnPairsWrongFalsely : Prop := fnPairsRow.holds Try.pinned (OpenSpec.ofChange fnPairsWrong)

/-- 'laws.FnBetween': WHATEVER THE INPUT: true; the input reads as it did. -/
def fnBetweenSpec : ChangeSpec := { name := "fnBetween", fn := fun _ => fun
  | [d] => { results := [.lit (.bool true)], args := [d] }
  | _ => none }
def fnBetweenRow : OpenClaim := { program := "ytecnmikfaoankaa", sum := "c71c11bf8a27c10480b574e8351b6c21fa5c81da0dc313fdb37d3279fbea499e", func := "loop.example/mirrorgrids/laws.FnBetween", spec := "fnBetween", unfollowed := true, recurses := true, apart := false }
def FnBetweenSaid : Prop := fnBetweenRow.holds Try.pinned (OpenSpec.ofChange fnBetweenSpec)

/-- ITS FALSE NEIGHBOUR: 'it returns false'. Refute it at one input. -/
def fnBetweenWrong : ChangeSpec := { name := "fnBetween", fn := fun _ => fun
  | [d] => { results := [.lit (.bool false)], args := [d] }
  | _ => none }
def FnBetweenWrongFalsely : Prop := fnBetweenRow.holds Try.pinned (OpenSpec.ofChange fnBetweenWrong)

/-- 'laws.FnExactChangePairs': WHATEVER THE INPUT: true; the input reads as it did. -/
def fnExactChangePairsSpec : ChangeSpec := { name := "fnExactChangePairs", fn := fun _ => fun
  | [d1, d2] => { results := [.lit (.bool true)], args := [d1, d2] }
  | _ => none }
def fnExactChangePairsRow : OpenClaim := { program := "ytecnmikfaoankaa", sum := "c71c11bf8a27c10480b574e8351b6c21fa5c81da0dc313fdb37d3279fbea499e", func := "loop.example/mirrorgrids/laws.FnExactChangePairs", spec := "fnExactChangePairs", unfollowed := true, recurses := true, apart := false }
def FnExactChangePairsSaid : Prop := fnExactChangePairsRow.holds Try.pinned (OpenSpec.ofChange fnExactChangePairsSpec)

/-- ITS FALSE NEIGHBOUR: 'it returns false'. Refute it at one input. -/
def fnExactChangePairsWrong : ChangeSpec := { name := "fnExactChangePairs", fn := fun _ => fun
  | [d1, d2] => { results := [.lit (.bool false)], args := [d1, d2] }
  | _ => none }
def FnExactChangePairsWrongFalsely : Prop := fnExactChangePairsRow.holds Try.pinned (OpenSpec.ofChange fnExactChangePairsWrong)

/-- 'laws.FnTurnPairs': WHATEVER THE INPUT: true; the input reads as it did. -/
def fnTurnPairsSpec : ChangeSpec := { name := "fnTurnPairs", fn := fun _ => fun
  | [d] => { results := [.lit (.bool true)], args := [d] }
  | _ => none }
def fnTurnPairsRow : OpenClaim := { program := "ytecnmikfaoankaa", sum := "c71c11bf8a27c10480b574e8351b6c21fa5c81da0dc313fdb37d3279fbea499e", func := "loop.example/mirrorgrids/laws.FnTurnPairs", spec := "fnTurnPairs", unfollowed := true, recurses := true, apart := false }
def FnTurnPairsSaid : Prop := fnTurnPairsRow.holds Try.pinned (OpenSpec.ofChange fnTurnPairsSpec)

/-- ITS FALSE NEIGHBOUR: 'it returns false'. Refute it at one input. -/
def fnTurnPairsWrong : ChangeSpec := { name := "fnTurnPairs", fn := fun _ => fun
  | [d] => { results := [.lit (.bool false)], args := [d] }
  | _ => none }
def FnTurnPairsWrongFalsely : Prop := fnTurnPairsRow.holds Try.pinned (OpenSpec.ofChange fnTurnPairsWrong)

/-- 'laws.FnCrossSelf': WHATEVER THE INPUT: true; the input reads as it did. -/
def fnCrossSelfSpec : ChangeSpec := { name := "fnCrossSelf", fn := fun _ => fun
  | [d] => { results := [.lit (.bool true)], args := [d] }
  | _ => none }
def fnCrossSelfRow : OpenClaim := { program := "ytecnmikfaoankaa", sum := "c71c11bf8a27c10480b574e8351b6c21fa5c81da0dc313fdb37d3279fbea499e", func := "loop.example/mirrorgrids/laws.FnCrossSelf", spec := "fnCrossSelf", apart := false }
def FnCrossSelfSaid : Prop := fnCrossSelfRow.holds Try.pinned (OpenSpec.ofChange fnCrossSelfSpec)

/-- ITS FALSE NEIGHBOUR: 'it returns false'. Refute it at one input. -/
def fnCrossSelfWrong : ChangeSpec := { name := "fnCrossSelf", fn := fun _ => fun
  | [d] => { results := [.lit (.bool false)], args := [d] }
  | _ => none }
def FnCrossSelfWrongFalsely : Prop := fnCrossSelfRow.holds Try.pinned (OpenSpec.ofChange fnCrossSelfWrong)

/-- 'laws.FnFlipPairs': WHATEVER THE INPUT: true; the input reads as it did. -/
def fnFlipPairsSpec : ChangeSpec := { name := "fnFlipPairs", fn := fun _ => fun
  | [d] => { results := [.lit (.bool true)], args := [d] }
  | _ => none }
def fnFlipPairsRow : OpenClaim := { program := "ytecnmikfaoankaa", sum := "c71c11bf8a27c10480b574e8351b6c21fa5c81da0dc313fdb37d3279fbea499e", func := "loop.example/mirrorgrids/laws.FnFlipPairs", spec := "fnFlipPairs", unfollowed := true, recurses := true, apart := false }
def FnFlipPairsSaid : Prop := fnFlipPairsRow.holds Try.pinned (OpenSpec.ofChange fnFlipPairsSpec)

/-- ITS FALSE NEIGHBOUR: 'it returns false'. Refute it at one input. -/
def fnFlipPairsWrong : ChangeSpec := { name := "fnFlipPairs", fn := fun _ => fun
  | [d] => { results := [.lit (.bool false)], args := [d] }
  | _ => none }
def FnFlipPairsWrongFalsely : Prop := fnFlipPairsRow.holds Try.pinned (OpenSpec.ofChange fnFlipPairsWrong)

/- THE SECOND FORM. 'bulk': how many values and letters a reading holds, each counted each time it is reached (what is shared counts as often as it is met; a slice's spare places count too). A statement '..UptoSaid' is the law's where the arguments, and the package variables that the reading takes, are together of bulk at most 1048576: NARROWER than '..Said'. Prove '..Said' where nothing that the law and all that it calls make is longer than what came in: it says more and counts as full. Else prove '..UptoSaid'. A law counts once. -/
mutual
def uptoBulk {H : Type} : DataW H → Nat
  | .lit (.string bytes) => bytes.length + 1
  | .lit _ => 1
  | .nil => 1
  | .ptr d => uptoBulk d + 1
  | .slice elems spare => uptoBulkAll elems + uptoBulkAll spare + 1
  | .agg parts => uptoBulkAll parts + 1
  | .iface _ d => uptoBulk d + 1
  | .map entries => uptoBulkEntries entries + 1
  | .held _ => 1
def uptoBulkAll {H : Type} : List (DataW H) → Nat
  | [] => 0
  | d :: r => uptoBulk d + uptoBulkAll r
def uptoBulkEntries {H : Type} : List (Lit × DataW H) → Nat
  | [] => 0
  | x :: r => uptoBulkEntry x + uptoBulkEntries r
def uptoBulkEntry {H : Type} : Lit × DataW H → Nat
  | (.string bytes, d) => bytes.length + uptoBulk d + 1
  | (_, d) => uptoBulk d + 1
 end
def uptoSmall : (H : Type) → List (DataW H) → Bool := fun _ ds => decide (uptoBulkAll ds ≤ 1048576)
def OpenSpec.upto (s : _root_.Go.ChangeSpec) : _root_.Go.OpenSpec := { _root_.Go.OpenSpec.ofChange s with cond := some uptoSmall }

/-- 'laws.FnExactCrossSelf', WHERE WHAT IT READS IS OF BULK AT MOST 1048576: true; the input reads as it did. -/
def fnExactCrossSelfUptoRow : OpenClaim := { program := "ytecnmikfaoankaa", sum := "c71c11bf8a27c10480b574e8351b6c21fa5c81da0dc313fdb37d3279fbea499e", func := "loop.example/mirrorgrids/laws.FnExactCrossSelf", spec := "fnExactCrossSelf", apart := false, narrowed := true }
def FnExactCrossSelfUptoSaid : Prop := fnExactCrossSelfUptoRow.holds Try.pinned (OpenSpec.upto fnExactCrossSelfSpec)

/-- 'laws.FnExactCrossBetween', WHERE WHAT IT READS IS OF BULK AT MOST 1048576: true; the input reads as it did. -/
def fnExactCrossBetweenUptoRow : OpenClaim := { program := "ytecnmikfaoankaa", sum := "c71c11bf8a27c10480b574e8351b6c21fa5c81da0dc313fdb37d3279fbea499e", func := "loop.example/mirrorgrids/laws.FnExactCrossBetween", spec := "fnExactCrossBetween", unfollowed := true, recurses := true, apart := false, narrowed := true }
def FnExactCrossBetweenUptoSaid : Prop := fnExactCrossBetweenUptoRow.holds Try.pinned (OpenSpec.upto fnExactCrossBetweenSpec)

/-- 'laws.FnPairs', WHERE WHAT IT READS IS OF BULK AT MOST 1048576: true; the input reads as it did. -/
def fnPairsUptoRow : OpenClaim := { program := "ytecnmikfaoankaa", sum := "c71c11bf8a27c10480b574e8351b6c21fa5c81da0dc313fdb37d3279fbea499e", func := "loop.example/mirrorgrids/laws.FnPairs", spec := "fnPairs", apart := false, narrowed := true }
def FnPairsUptoSaid : Prop := fnPairsUptoRow.holds Try.pinned (OpenSpec.upto fnPairsSpec)

/-- 'laws.FnBetween', WHERE WHAT IT READS IS OF BULK AT MOST 1048576: true; the input reads as it did. -/
def fnBetweenUptoRow : OpenClaim := { program := "ytecnmikfaoankaa", sum := "c71c11bf8a27c10480b574e8351b6c21fa5c81da0dc313fdb37d3279fbea499e", func := "loop.example/mirrorgrids/laws.FnBetween", spec := "fnBetween", unfollowed := true, recurses := true, apart := false, narrowed := true }
def FnBetweenUptoSaid : Prop := fnBetweenUptoRow.holds Try.pinned (OpenSpec.upto fnBetweenSpec)

/-- 'laws.FnExactChangePairs', WHERE WHAT IT READS IS OF BULK AT MOST 1048576: true; the input reads as it did. -/
def fnExactChangePairsUptoRow : OpenClaim := { program := "ytecnmikfaoankaa", sum := "c71c11bf8a27c10480b574e8351b6c21fa5c81da0dc313fdb37d3279fbea499e", func := "loop.example/mirrorgrids/laws.FnExactChangePairs", spec := "fnExactChangePairs", unfollowed := true, recurses := true, apart := false, narrowed := true }
def FnExactChangePairsUptoSaid : Prop := fnExactChangePairsUptoRow.holds Try.pinned (OpenSpec.upto fnExactChangePairsSpec)

/-- 'laws.FnTurnPairs', WHERE WHAT IT READS IS OF BULK AT MOST 1048576: true; the input reads as it did. -/
def fnTurnPairsUptoRow : OpenClaim := { program := "ytecnmikfaoankaa", sum := "c71c11bf8a27c10480b574e8351b6c21fa5c81da0dc313fdb37d3279fbea499e", func := "loop.example/mirrorgrids/laws.FnTurnPairs", spec := "fnTurnPairs", unfollowed := true, recurses := true, apart := false, narrowed := true }
def FnTurnPairsUptoSaid : Prop := fnTurnPairsUptoRow.holds Try.pinned (OpenSpec.upto fnTurnPairsSpec)

/-- 'laws.FnCrossSelf', WHERE WHAT IT READS IS OF BULK AT MOST 1048576: true; the input reads as it did. -/
def fnCrossSelfUptoRow : OpenClaim := { program := "ytecnmikfaoankaa", sum := "c71c11bf8a27c10480b574e8351b6c21fa5c81da0dc313fdb37d3279fbea499e", func := "loop.example/mirrorgrids/laws.FnCrossSelf", spec := "fnCrossSelf", apart := false, narrowed := true }
def FnCrossSelfUptoSaid : Prop := fnCrossSelfUptoRow.holds Try.pinned (OpenSpec.upto fnCrossSelfSpec)

/-- 'laws.FnFlipPairs', WHERE WHAT IT READS IS OF BULK AT MOST 1048576: true; the input reads as it did. -/
def fnFlipPairsUptoRow : OpenClaim := { program := "ytecnmikfaoankaa", sum := "c71c11bf8a27c10480b574e8351b6c21fa5c81da0dc313fdb37d3279fbea499e", func := "loop.example/mirrorgrids/laws.FnFlipPairs", spec := "fnFlipPairs", unfollowed := true, recurses := true, apart := false, narrowed := true }
def FnFlipPairsUptoSaid : Prop := fnFlipPairsUptoRow.holds Try.pinned (OpenSpec.upto fnFlipPairsSpec)

end Rows
end Go.Proofs.Ytecnmikfaoankaa
