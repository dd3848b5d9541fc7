/-
  No cell of these rows narrows 'for every input' (looked for: loops, veiled, ifaces, maps, wideKeys, modest, calm, conditions, laid).
  DERIVED. THE GIVEN ROWS OF THIS SEAT. 10 by the template 'for every input the law returns true; each argument reads behind the call as it read before'; 0 by the template 'total and deterministic' (their statements: YtcacbkcckfgkjaaTotals.lean).
  GIVEN WITH THE SEED: the statements are not yours to turn. If you find one false, say at which input.
  Laid BY PROGRAM, IN A SANDBOX (cutbox-rows.mjs): the forced cells as the released guide's own fill.sh prints them over the translation 775459fc24806c49… (all of the seat's roots in one cut). By AI agents, Wed Nov 11 2026. No macro, syntax, notation, axiom, sorry.
-/
import Derived.Test.YtcacbkcckfgkjaaChecked
import GoSem.Claim
import GoSem.ClaimJoined
import GoSem.ClaimMapViews
import Derived.JoinedTies
import Derived.KernelRfl
namespace Go.Proofs.Ytcacbkcckfgkjaa
/- THE CELL 'sum', in the pinned program and in every row, IS THE sha256 OF THE DUMP (.gsa) THAT YtcacbkcckfgkjaaProg.lean LOADS. Nothing in Lean hashes anything: it is a label: what it is worth is what the hold of that sum in a sandbox is worth. -/
noncomputable def Try.pinned : Pinned := { name := "ytcacbkcckfgkjaa", sum := "775459fc24806c49f7906a8f948cb72e4d4bb43b988ed3a7fd4f465af5144ff9", checked := Try.checked }
namespace Rows
def none {H : Type} : Left H := { results := [], args := [] }

/-- 'laws.FnExactChangeSelf': WHATEVER THE INPUT: true; the input reads as it did. -/
def fnExactChangeSelfSpec : ChangeSpec := { name := "fnExactChangeSelf", fn := fun _ => fun
  | [d1, d2] => { results := [.lit (.bool true)], args := [d1, d2] }
  | _ => none }
def fnExactChangeSelfRow : OpenClaim := { program := "ytcacbkcckfgkjaa", sum := "775459fc24806c49f7906a8f948cb72e4d4bb43b988ed3a7fd4f465af5144ff9", func := "loop.example/mirrorgrids/laws.FnExactChangeSelf", spec := "fnExactChangeSelf", plainKeys := false, apart := false }
def FnExactChangeSelfSaid : Prop := fnExactChangeSelfRow.holds Try.pinned (OpenSpec.ofChange fnExactChangeSelfSpec)

/-- ITS FALSE NEIGHBOUR: 'it returns false'. Refute it at one input. -/
def fnExactChangeSelfWrong : ChangeSpec := { name := "fnExactChangeSelf", fn := fun _ => fun
  | [d1, d2] => { results := [.lit (.bool false)], args := [d1, d2] }
  | _ => none }
def FnExactChangeSelfWrongFalsely : Prop := fnExactChangeSelfRow.holds Try.pinned (OpenSpec.ofChange fnExactChangeSelfWrong)

/-- 'laws.FnExactChangePaths': WHATEVER THE INPUT: true; the input reads as it did. -/
def fnExactChangePathsSpec : ChangeSpec := { name := "fnExactChangePaths", fn := fun _ => fun
  | [d1, d2] => { results := [.lit (.bool true)], args := [d1, d2] }
  | _ => none }
def fnExactChangePathsRow : OpenClaim := { program := "ytcacbkcckfgkjaa", sum := "775459fc24806c49f7906a8f948cb72e4d4bb43b988ed3a7fd4f465af5144ff9", func := "loop.example/mirrorgrids/laws.FnExactChangePaths", spec := "fnExactChangePaths", unfollowed := true, recurses := true, plainKeys := false, apart := false }
def FnExactChangePathsSaid : Prop := fnExactChangePathsRow.holds Try.pinned (OpenSpec.ofChange fnExactChangePathsSpec)

/-- ITS FALSE NEIGHBOUR: 'it returns false'. Refute it at one input. -/
def fnExactChangePathsWrong : ChangeSpec := { name := "fnExactChangePaths", fn := fun _ => fun
  | [d1, d2] => { results := [.lit (.bool false)], args := [d1, d2] }
  | _ => none }
def FnExactChangePathsWrongFalsely : Prop := fnExactChangePathsRow.holds Try.pinned (OpenSpec.ofChange fnExactChangePathsWrong)

/-- 'laws.FnSelf': WHATEVER THE INPUT: true; the input reads as it did. -/
def fnSelfSpec : ChangeSpec := { name := "fnSelf", fn := fun _ => fun
  | [d] => { results := [.lit (.bool true)], args := [d] }
  | _ => none }
def fnSelfRow : OpenClaim := { program := "ytcacbkcckfgkjaa", sum := "775459fc24806c49f7906a8f948cb72e4d4bb43b988ed3a7fd4f465af5144ff9", func := "loop.example/mirrorgrids/laws.FnSelf", spec := "fnSelf", unfollowed := true, recurses := true, plainKeys := false, apart := false }
def FnSelfSaid : Prop := fnSelfRow.holds Try.pinned (OpenSpec.ofChange fnSelfSpec)

/-- ITS FALSE NEIGHBOUR: 'it returns false'. Refute it at one input. -/
def fnSelfWrong : ChangeSpec := { name := "fnSelf", fn := fun _ => fun
  | [d] => { results := [.lit (.bool false)], args := [d] }
  | _ => none }
def FnSelfWrongFalsely : Prop := fnSelfRow.holds Try.pinned (OpenSpec.ofChange fnSelfWrong)

/-- 'laws.FnChangePairs': WHATEVER THE INPUT: true; the input reads as it did. -/
def fnChangePairsSpec : ChangeSpec := { name := "fnChangePairs", fn := fun _ => fun
  | [d] => { results := [.lit (.bool true)], args := [d] }
  | _ => none }
def fnChangePairsRow : OpenClaim := { program := "ytcacbkcckfgkjaa", sum := "775459fc24806c49f7906a8f948cb72e4d4bb43b988ed3a7fd4f465af5144ff9", func := "loop.example/mirrorgrids/laws.FnChangePairs", spec := "fnChangePairs", unfollowed := true, recurses := true, plainKeys := false, apart := false }
def FnChangePairsSaid : Prop := fnChangePairsRow.holds Try.pinned (OpenSpec.ofChange fnChangePairsSpec)

/-- ITS FALSE NEIGHBOUR: 'it returns false'. Refute it at one input. -/
def fnChangePairsWrong : ChangeSpec := { name := "fnChangePairs", fn := fun _ => fun
  | [d] => { results := [.lit (.bool false)], args := [d] }
  | _ => none }
def FnChangePairsWrongFalsely : Prop := fnChangePairsRow.holds Try.pinned (OpenSpec.ofChange fnChangePairsWrong)

/-- 'laws.FnEmpty': WHATEVER THE INPUT: true; the input reads as it did. -/
def fnEmptySpec : ChangeSpec := { name := "fnEmpty", fn := fun _ => fun
  | [d] => { results := [.lit (.bool true)], args := [d] }
  | _ => none }
def fnEmptyRow : OpenClaim := { program := "ytcacbkcckfgkjaa", sum := "775459fc24806c49f7906a8f948cb72e4d4bb43b988ed3a7fd4f465af5144ff9", func := "loop.example/mirrorgrids/laws.FnEmpty", spec := "fnEmpty", unfollowed := true, recurses := true, plainKeys := false, apart := false }
def FnEmptySaid : Prop := fnEmptyRow.holds Try.pinned (OpenSpec.ofChange fnEmptySpec)

/-- ITS FALSE NEIGHBOUR: 'it returns false'. Refute it at one input. -/
def fnEmptyWrong : ChangeSpec := { name := "fnEmpty", fn := fun _ => fun
  | [d] => { results := [.lit (.bool false)], args := [d] }
  | _ => none }
def FnEmptyWrongFalsely : Prop := fnEmptyRow.holds Try.pinned (OpenSpec.ofChange fnEmptyWrong)

/-- 'laws.FnThree': WHATEVER THE INPUT: true; the input reads as it did. -/
def fnThreeSpec : ChangeSpec := { name := "fnThree", fn := fun _ => fun
  | [d] => { results := [.lit (.bool true)], args := [d] }
  | _ => none }
def fnThreeRow : OpenClaim := { program := "ytcacbkcckfgkjaa", sum := "775459fc24806c49f7906a8f948cb72e4d4bb43b988ed3a7fd4f465af5144ff9", func := "loop.example/mirrorgrids/laws.FnThree", spec := "fnThree", unfollowed := true, recurses := true, plainKeys := false, apart := false }
def FnThreeSaid : Prop := fnThreeRow.holds Try.pinned (OpenSpec.ofChange fnThreeSpec)

/-- ITS FALSE NEIGHBOUR: 'it returns false'. Refute it at one input. -/
def fnThreeWrong : ChangeSpec := { name := "fnThree", fn := fun _ => fun
  | [d] => { results := [.lit (.bool false)], args := [d] }
  | _ => none }
def FnThreeWrongFalsely : Prop := fnThreeRow.holds Try.pinned (OpenSpec.ofChange fnThreeWrong)

/-- 'laws.FnDelta': WHATEVER THE INPUT: true; the input reads as it did. -/
def fnDeltaSpec : ChangeSpec := { name := "fnDelta", fn := fun _ => fun
  | [d] => { results := [.lit (.bool true)], args := [d] }
  | _ => none }
def fnDeltaRow : OpenClaim := { program := "ytcacbkcckfgkjaa", sum := "775459fc24806c49f7906a8f948cb72e4d4bb43b988ed3a7fd4f465af5144ff9", func := "loop.example/mirrorgrids/laws.FnDelta", spec := "fnDelta", unfollowed := true, recurses := true, plainKeys := false, apart := false }
def FnDeltaSaid : Prop := fnDeltaRow.holds Try.pinned (OpenSpec.ofChange fnDeltaSpec)

/-- ITS FALSE NEIGHBOUR: 'it returns false'. Refute it at one input. -/
def fnDeltaWrong : ChangeSpec := { name := "fnDelta", fn := fun _ => fun
  | [d] => { results := [.lit (.bool false)], args := [d] }
  | _ => none }
def FnDeltaWrongFalsely : Prop := fnDeltaRow.holds Try.pinned (OpenSpec.ofChange fnDeltaWrong)

/-- 'laws.FnBest': WHATEVER THE INPUT: true; the input reads as it did. -/
def fnBestSpec : ChangeSpec := { name := "fnBest", fn := fun _ => fun
  | [d] => { results := [.lit (.bool true)], args := [d] }
  | _ => none }
def fnBestRow : OpenClaim := { program := "ytcacbkcckfgkjaa", sum := "775459fc24806c49f7906a8f948cb72e4d4bb43b988ed3a7fd4f465af5144ff9", func := "loop.example/mirrorgrids/laws.FnBest", spec := "fnBest", unfollowed := true, recurses := true, plainKeys := false, apart := false }
def FnBestSaid : Prop := fnBestRow.holds Try.pinned (OpenSpec.ofChange fnBestSpec)

/-- ITS FALSE NEIGHBOUR: 'it returns false'. Refute it at one input. -/
def fnBestWrong : ChangeSpec := { name := "fnBest", fn := fun _ => fun
  | [d] => { results := [.lit (.bool false)], args := [d] }
  | _ => none }
def FnBestWrongFalsely : Prop := fnBestRow.holds Try.pinned (OpenSpec.ofChange fnBestWrong)

/-- 'laws.FnExactChangeClimb': WHATEVER THE INPUT: true; the input reads as it did. -/
def fnExactChangeClimbSpec : ChangeSpec := { name := "fnExactChangeClimb", fn := fun _ => fun
  | [d] => { results := [.lit (.bool true)], args := [d] }
  | _ => none }
def fnExactChangeClimbRow : OpenClaim := { program := "ytcacbkcckfgkjaa", sum := "775459fc24806c49f7906a8f948cb72e4d4bb43b988ed3a7fd4f465af5144ff9", func := "loop.example/mirrorgrids/laws.FnExactChangeClimb", spec := "fnExactChangeClimb", unfollowed := true, recurses := true, plainKeys := false, apart := false }
def FnExactChangeClimbSaid : Prop := fnExactChangeClimbRow.holds Try.pinned (OpenSpec.ofChange fnExactChangeClimbSpec)

/-- ITS FALSE NEIGHBOUR: 'it returns false'. Refute it at one input. -/
def fnExactChangeClimbWrong : ChangeSpec := { name := "fnExactChangeClimb", fn := fun _ => fun
  | [d] => { results := [.lit (.bool false)], args := [d] }
  | _ => none }
def FnExactChangeClimbWrongFalsely : Prop := fnExactChangeClimbRow.holds Try.pinned (OpenSpec.ofChange fnExactChangeClimbWrong)

/-- 'laws.FnClimb': WHATEVER THE INPUT: true; the input reads as it did. -/
def fnClimbSpec : ChangeSpec := { name := "fnClimb", fn := fun _ => fun
  | [d] => { results := [.lit (.bool true)], args := [d] }
  | _ => none }
def fnClimbRow : OpenClaim := { program := "ytcacbkcckfgkjaa", sum := "775459fc24806c49f7906a8f948cb72e4d4bb43b988ed3a7fd4f465af5144ff9", func := "loop.example/mirrorgrids/laws.FnClimb", spec := "fnClimb", unfollowed := true, recurses := true, plainKeys := false, apart := false }
def FnClimbSaid : Prop := fnClimbRow.holds Try.pinned (OpenSpec.ofChange fnClimbSpec)

/-- ITS FALSE NEIGHBOUR: 'it returns false'. Refute it at one input. -/
def fnClimbWrong : ChangeSpec := { name := "fnClimb", fn := fun _ => fun
  | [d] => { results := [.lit (.bool false)], args := [d] }
  | _ => none }
def FnClimbWrongFalsely : Prop := fnClimbRow.holds Try.pinned (OpenSpec.ofChange fnClimbWrong)

/- THE SECOND FORM. 'bulk': how many values and letters a reading holds, each counted each time it is reached (what is shared counts as often as it is met; a slice's spare places count too). A statement '..UptoSaid' is the law's where the arguments, and the package variables that the reading takes, are together of bulk at most 1048576: NARROWER than '..Said'. Prove '..Said' where nothing that the law and all that it calls make is longer than what came in: it says more and counts as full. Else prove '..UptoSaid'. A law counts once. -/
mutual
def uptoBulk {H : Type} : DataW H → Nat
  | .lit (.string bytes) => bytes.length + 1
  | .lit _ => 1
  | .nil => 1
  | .ptr d => uptoBulk d + 1
  | .slice elems spare => uptoBulkAll elems + uptoBulkAll spare + 1
  | .agg parts => uptoBulkAll parts + 1
  | .iface _ d => uptoBulk d + 1
  | .map entries => uptoBulkEntries entries + 1
  | .held _ => 1
def uptoBulkAll {H : Type} : List (DataW H) → Nat
  | [] => 0
  | d :: r => uptoBulk d + uptoBulkAll r
def uptoBulkEntries {H : Type} : List (Lit × DataW H) → Nat
  | [] => 0
  | x :: r => uptoBulkEntry x + uptoBulkEntries r
def uptoBulkEntry {H : Type} : Lit × DataW H → Nat
  | (.string bytes, d) => bytes.length + uptoBulk d + 1
  | (_, d) => uptoBulk d + 1
 end
def uptoSmall : (H : Type) → List (DataW H) → Bool := fun _ ds => decide (uptoBulkAll ds ≤ 1048576)
def OpenSpec.upto (s : _root_.Go.ChangeSpec) : _root_.Go.OpenSpec := { _root_.Go.OpenSpec.ofChange s with cond := some uptoSmall }

/-- 'laws.FnExactChangeSelf', WHERE WHAT IT READS IS OF BULK AT MOST 1048576: true; the input reads as it did. -/
def fnExactChangeSelfUptoRow : OpenClaim := { program := "ytcacbkcckfgkjaa", sum := "775459fc24806c49f7906a8f948cb72e4d4bb43b988ed3a7fd4f465af5144ff9", func := "loop.example/mirrorgrids/laws.FnExactChangeSelf", spec := "fnExactChangeSelf", plainKeys := false, apart := false, narrowed := true }
def FnExactChangeSelfUptoSaid : Prop := fnExactChangeSelfUptoRow.holds Try.pinned (OpenSpec.upto fnExactChangeSelfSpec)

/-- 'laws.FnExactChangePaths', WHERE WHAT IT READS IS OF BULK AT MOST 1048576: true; the input reads as it did. -/
def fnExactChangePathsUptoRow : OpenClaim := { program := "ytcacbkcckfgkjaa", sum := "775459fc24806c49f7906a8f948cb72e4d4bb43b988ed3a7fd4f465af5144ff9", func := "loop.example/mirrorgrids/laws.FnExactChangePaths", spec := "fnExactChangePaths", unfollowed := true, recurses := true, plainKeys := false, apart := false, narrowed := true }
def FnExactChangePathsUptoSaid : Prop := fnExactChangePathsUptoRow.holds Try.pinned (OpenSpec.upto fnExactChangePathsSpec)

/-- 'laws.FnSelf', WHERE WHAT IT READS IS OF BULK AT MOST 1048576: true; the input reads as it did. -/
def fnSelfUptoRow : OpenClaim := { program := "ytcacbkcckfgkjaa", sum := "775459fc24806c49f7906a8f948cb72e4d4bb43b988ed3a7fd4f465af5144ff9", func := "loop.example/mirrorgrids/laws.FnSelf", spec := "fnSelf", unfollowed := true, recurses := true, plainKeys := false, apart := false, narrowed := true }
def FnSelfUptoSaid : Prop := fnSelfUptoRow.holds Try.pinned (OpenSpec.upto fnSelfSpec)

/-- 'laws.FnChangePairs', WHERE WHAT IT READS IS OF BULK AT MOST 1048576: true; the input reads as it did. -/
def fnChangePairsUptoRow : OpenClaim := { program := "ytcacbkcckfgkjaa", sum := "775459fc24806c49f7906a8f948cb72e4d4bb43b988ed3a7fd4f465af5144ff9", func := "loop.example/mirrorgrids/laws.FnChangePairs", spec := "fnChangePairs", unfollowed := true, recurses := true, plainKeys := false, apart := false, narrowed := true }
def FnChangePairsUptoSaid : Prop := fnChangePairsUptoRow.holds Try.pinned (OpenSpec.upto fnChangePairsSpec)

/-- 'laws.FnEmpty', WHERE WHAT IT READS IS OF BULK AT MOST 1048576: true; the input reads as it did. -/
def fnEmptyUptoRow : OpenClaim := { program := "ytcacbkcckfgkjaa", sum := "775459fc24806c49f7906a8f948cb72e4d4bb43b988ed3a7fd4f465af5144ff9", func := "loop.example/mirrorgrids/laws.FnEmpty", spec := "fnEmpty", unfollowed := true, recurses := true, plainKeys := false, apart := false, narrowed := true }
def FnEmptyUptoSaid : Prop := fnEmptyUptoRow.holds Try.pinned (OpenSpec.upto fnEmptySpec)

/-- 'laws.FnThree', WHERE WHAT IT READS IS OF BULK AT MOST 1048576: true; the input reads as it did. -/
def fnThreeUptoRow : OpenClaim := { program := "ytcacbkcckfgkjaa", sum := "775459fc24806c49f7906a8f948cb72e4d4bb43b988ed3a7fd4f465af5144ff9", func := "loop.example/mirrorgrids/laws.FnThree", spec := "fnThree", unfollowed := true, recurses := true, plainKeys := false, apart := false, narrowed := true }
def FnThreeUptoSaid : Prop := fnThreeUptoRow.holds Try.pinned (OpenSpec.upto fnThreeSpec)

/-- 'laws.FnDelta', WHERE WHAT IT READS IS OF BULK AT MOST 1048576: true; the input reads as it did. -/
def fnDeltaUptoRow : OpenClaim := { program := "ytcacbkcckfgkjaa", sum := "775459fc24806c49f7906a8f948cb72e4d4bb43b988ed3a7fd4f465af5144ff9", func := "loop.example/mirrorgrids/laws.FnDelta", spec := "fnDelta", unfollowed := true, recurses := true, plainKeys := false, apart := false, narrowed := true }
def FnDeltaUptoSaid : Prop := fnDeltaUptoRow.holds Try.pinned (OpenSpec.upto fnDeltaSpec)

/-- 'laws.FnBest', WHERE WHAT IT READS IS OF BULK AT MOST 1048576: true; the input reads as it did. -/
def fnBestUptoRow : OpenClaim := { program := "ytcacbkcckfgkjaa", sum := "775459fc24806c49f7906a8f948cb72e4d4bb43b988ed3a7fd4f465af5144ff9", func := "loop.example/mirrorgrids/laws.FnBest", spec := "fnBest", unfollowed := true, recurses := true, plainKeys := false, apart := false, narrowed := true }
def FnBestUptoSaid : Prop := fnBestUptoRow.holds Try.pinned (OpenSpec.upto fnBestSpec)

/-- 'laws.FnExactChangeClimb', WHERE WHAT IT READS IS OF BULK AT MOST 1048576: true; the input reads as it did. -/
def fnExactChangeClimbUptoRow : OpenClaim := { program := "ytcacbkcckfgkjaa", sum := "775459fc24806c49f7906a8f948cb72e4d4bb43b988ed3a7fd4f465af5144ff9", func := "loop.example/mirrorgrids/laws.FnExactChangeClimb", spec := "fnExactChangeClimb", unfollowed := true, recurses := true, plainKeys := false, apart := false, narrowed := true }
def FnExactChangeClimbUptoSaid : Prop := fnExactChangeClimbUptoRow.holds Try.pinned (OpenSpec.upto fnExactChangeClimbSpec)

/-- 'laws.FnClimb', WHERE WHAT IT READS IS OF BULK AT MOST 1048576: true; the input reads as it did. -/
def fnClimbUptoRow : OpenClaim := { program := "ytcacbkcckfgkjaa", sum := "775459fc24806c49f7906a8f948cb72e4d4bb43b988ed3a7fd4f465af5144ff9", func := "loop.example/mirrorgrids/laws.FnClimb", spec := "fnClimb", unfollowed := true, recurses := true, plainKeys := false, apart := false, narrowed := true }
def FnClimbUptoSaid : Prop := fnClimbUptoRow.holds Try.pinned (OpenSpec.upto fnClimbSpec)

end Rows
end Go.Proofs.Ytcacbkcckfgkjaa
