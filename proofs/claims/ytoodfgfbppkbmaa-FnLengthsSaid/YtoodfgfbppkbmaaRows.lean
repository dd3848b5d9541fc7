/-
  No cell of these rows narrows 'for every input' (looked for: loops, veiled, ifaces, maps, wideKeys, modest, calm, conditions, laid).
  DERIVED. THE GIVEN ROWS OF THIS SEAT. 7 by the template 'for every input the law returns true; each argument reads behind the call as it read before'; 0 by the template 'total and deterministic' (their statements: YtoodfgfbppkbmaaTotals.lean).
  GIVEN WITH THE SEED: the statements are not yours to turn. If you find one false, say at which input.
  Laid BY PROGRAM, IN A SANDBOX (cutbox-rows.mjs): the forced cells as the released guide's own fill.sh prints them over the translation 765f5e25eea63c8a… (all of the seat's roots in one cut). By AI agents, Wed Nov 11 2026. No macro, syntax, notation, axiom, sorry.
-/
import Derived.Test.YtoodfgfbppkbmaaChecked
import GoSem.Claim
import GoSem.ClaimJoined
import GoSem.ClaimMapViews
import Derived.JoinedTies
import Derived.KernelRfl
namespace Go.Proofs.Ytoodfgfbppkbmaa
/- THE CELL 'sum', in the pinned program and in every row, IS THE sha256 OF THE DUMP (.gsa) THAT YtoodfgfbppkbmaaProg.lean LOADS. Nothing in Lean hashes anything: it is a label: what it is worth is what the hold of that sum in a sandbox is worth. -/
noncomputable def Try.pinned : Pinned := { name := "ytoodfgfbppkbmaa", sum := "765f5e25eea63c8a60eea8ed257a71d0f241f3334bdc5f92de4ee17c133979c7", checked := Try.checked }
namespace Rows
def none {H : Type} : Left H := { results := [], args := [] }

/-- 'laws.FnExactJoinGrid': WHATEVER THE INPUT: true; the input reads as it did. -/
def fnExactJoinGridSpec : ChangeSpec := { name := "fnExactJoinGrid", fn := fun _ => fun
  | [d] => { results := [.lit (.bool true)], args := [d] }
  | _ => none }
def fnExactJoinGridRow : OpenClaim := { program := "ytoodfgfbppkbmaa", sum := "765f5e25eea63c8a60eea8ed257a71d0f241f3334bdc5f92de4ee17c133979c7", func := "loop.example/mirrorgrids/laws.FnExactJoinGrid", spec := "fnExactJoinGrid", plainKeys := false, apart := false }
def FnExactJoinGridSaid : Prop := fnExactJoinGridRow.holds Try.pinned (OpenSpec.ofChange fnExactJoinGridSpec)

/-- ITS FALSE NEIGHBOUR: 'it returns false'. Refute it at one input. -/
def fnExactJoinGridWrong : ChangeSpec := { name := "fnExactJoinGrid", fn := fun _ => fun
  | [d] => { results := [.lit (.bool false)], args := [d] }
  | _ => none }
def FnExactJoinGridWrongFalsely : Prop := fnExactJoinGridRow.holds Try.pinned (OpenSpec.ofChange fnExactJoinGridWrong)

/-- 'laws.FnExactRoundLengths': WHATEVER THE INPUT: true; the input reads as it did. -/
def fnExactRoundLengthsSpec : ChangeSpec := { name := "fnExactRoundLengths", fn := fun _ => fun
  | [d] => { results := [.lit (.bool true)], args := [d] }
  | _ => none }
def fnExactRoundLengthsRow : OpenClaim := { program := "ytoodfgfbppkbmaa", sum := "765f5e25eea63c8a60eea8ed257a71d0f241f3334bdc5f92de4ee17c133979c7", func := "loop.example/mirrorgrids/laws.FnExactRoundLengths", spec := "fnExactRoundLengths", recurses := true, plainKeys := false, apart := false }
def FnExactRoundLengthsSaid : Prop := fnExactRoundLengthsRow.holds Try.pinned (OpenSpec.ofChange fnExactRoundLengthsSpec)

/-- ITS FALSE NEIGHBOUR: 'it returns false'. Refute it at one input. -/
def fnExactRoundLengthsWrong : ChangeSpec := { name := "fnExactRoundLengths", fn := fun _ => fun
  | [d] => { results := [.lit (.bool false)], args := [d] }
  | _ => none }
def FnExactRoundLengthsWrongFalsely : Prop := fnExactRoundLengthsRow.holds Try.pinned (OpenSpec.ofChange fnExactRoundLengthsWrong)

/-- 'laws.FnLengths': WHATEVER THE INPUT: true; the input reads as it did. -/
def fnLengthsSpec : ChangeSpec := { name := "fnLengths", fn := fun _ => fun
  | [d] => { results := [.lit (.bool true)], args := [d] }
  | _ => none }
def fnLengthsRow : OpenClaim := { program := "ytoodfgfbppkbmaa", sum := "765f5e25eea63c8a60eea8ed257a71d0f241f3334bdc5f92de4ee17c133979c7", func := "loop.example/mirrorgrids/laws.FnLengths", spec := "fnLengths", recurses := true, plainKeys := false, apart := false }
def FnLengthsSaid : Prop := fnLengthsRow.holds Try.pinned (OpenSpec.ofChange fnLengthsSpec)

/-- ITS FALSE NEIGHBOUR: 'it returns false'. Refute it at one input. -/
def fnLengthsWrong : ChangeSpec := { name := "fnLengths", fn := fun _ => fun
  | [d] => { results := [.lit (.bool false)], args := [d] }
  | _ => none }
def FnLengthsWrongFalsely : Prop := fnLengthsRow.holds Try.pinned (OpenSpec.ofChange fnLengthsWrong)

/-- 'laws.FnExactJoinMany': WHATEVER THE INPUT: true; the input reads as it did. -/
def fnExactJoinManySpec : ChangeSpec := { name := "fnExactJoinMany", fn := fun _ => fun
  | [d] => { results := [.lit (.bool true)], args := [d] }
  | _ => none }
def fnExactJoinManyRow : OpenClaim := { program := "ytoodfgfbppkbmaa", sum := "765f5e25eea63c8a60eea8ed257a71d0f241f3334bdc5f92de4ee17c133979c7", func := "loop.example/mirrorgrids/laws.FnExactJoinMany", spec := "fnExactJoinMany", plainKeys := false, apart := false }
def FnExactJoinManySaid : Prop := fnExactJoinManyRow.holds Try.pinned (OpenSpec.ofChange fnExactJoinManySpec)

/-- ITS FALSE NEIGHBOUR: 'it returns false'. Refute it at one input. -/
def fnExactJoinManyWrong : ChangeSpec := { name := "fnExactJoinMany", fn := fun _ => fun
  | [d] => { results := [.lit (.bool false)], args := [d] }
  | _ => none }
def FnExactJoinManyWrongFalsely : Prop := fnExactJoinManyRow.holds Try.pinned (OpenSpec.ofChange fnExactJoinManyWrong)

/-- 'laws.FnJoinMany': WHATEVER THE INPUT: true; the input reads as it did. -/
def fnJoinManySpec : ChangeSpec := { name := "fnJoinMany", fn := fun _ => fun
  | [d] => { results := [.lit (.bool true)], args := [d] }
  | _ => none }
def fnJoinManyRow : OpenClaim := { program := "ytoodfgfbppkbmaa", sum := "765f5e25eea63c8a60eea8ed257a71d0f241f3334bdc5f92de4ee17c133979c7", func := "loop.example/mirrorgrids/laws.FnJoinMany", spec := "fnJoinMany", plainKeys := false, apart := false }
def FnJoinManySaid : Prop := fnJoinManyRow.holds Try.pinned (OpenSpec.ofChange fnJoinManySpec)

/-- ITS FALSE NEIGHBOUR: 'it returns false'. Refute it at one input. -/
def fnJoinManyWrong : ChangeSpec := { name := "fnJoinMany", fn := fun _ => fun
  | [d] => { results := [.lit (.bool false)], args := [d] }
  | _ => none }
def FnJoinManyWrongFalsely : Prop := fnJoinManyRow.holds Try.pinned (OpenSpec.ofChange fnJoinManyWrong)

/-- 'laws.FnJoinGrid': WHATEVER THE INPUT: true; the input reads as it did. -/
def fnJoinGridSpec : ChangeSpec := { name := "fnJoinGrid", fn := fun _ => fun
  | [d] => { results := [.lit (.bool true)], args := [d] }
  | _ => none }
def fnJoinGridRow : OpenClaim := { program := "ytoodfgfbppkbmaa", sum := "765f5e25eea63c8a60eea8ed257a71d0f241f3334bdc5f92de4ee17c133979c7", func := "loop.example/mirrorgrids/laws.FnJoinGrid", spec := "fnJoinGrid", plainKeys := false, apart := false }
def FnJoinGridSaid : Prop := fnJoinGridRow.holds Try.pinned (OpenSpec.ofChange fnJoinGridSpec)

/-- ITS FALSE NEIGHBOUR: 'it returns false'. Refute it at one input. -/
def fnJoinGridWrong : ChangeSpec := { name := "fnJoinGrid", fn := fun _ => fun
  | [d] => { results := [.lit (.bool false)], args := [d] }
  | _ => none }
def FnJoinGridWrongFalsely : Prop := fnJoinGridRow.holds Try.pinned (OpenSpec.ofChange fnJoinGridWrong)

/-- 'laws.FnJoinBeside': WHATEVER THE INPUT: true; the input reads as it did. -/
def fnJoinBesideSpec : ChangeSpec := { name := "fnJoinBeside", fn := fun _ => fun
  | [d] => { results := [.lit (.bool true)], args := [d] }
  | _ => none }
def fnJoinBesideRow : OpenClaim := { program := "ytoodfgfbppkbmaa", sum := "765f5e25eea63c8a60eea8ed257a71d0f241f3334bdc5f92de4ee17c133979c7", func := "loop.example/mirrorgrids/laws.FnJoinBeside", spec := "fnJoinBeside", plainKeys := false, apart := false }
def FnJoinBesideSaid : Prop := fnJoinBesideRow.holds Try.pinned (OpenSpec.ofChange fnJoinBesideSpec)

/-- ITS FALSE NEIGHBOUR: 'it returns false'. Refute it at one input. -/
def fnJoinBesideWrong : ChangeSpec := { name := "fnJoinBeside", fn := fun _ => fun
  | [d] => { results := [.lit (.bool false)], args := [d] }
  | _ => none }
def FnJoinBesideWrongFalsely : Prop := fnJoinBesideRow.holds Try.pinned (OpenSpec.ofChange fnJoinBesideWrong)

/- THE SECOND FORM. 'bulk': how many values and letters a reading holds, each counted each time it is reached (what is shared counts as often as it is met; a slice's spare places count too). A statement '..UptoSaid' is the law's where the arguments, and the package variables that the reading takes, are together of bulk at most 1048576: NARROWER than '..Said'. Prove '..Said' where nothing that the law and all that it calls make is longer than what came in: it says more and counts as full. Else prove '..UptoSaid'. A law counts once. -/
mutual
def uptoBulk {H : Type} : DataW H → Nat
  | .lit (.string bytes) => bytes.length + 1
  | .lit _ => 1
  | .nil => 1
  | .ptr d => uptoBulk d + 1
  | .slice elems spare => uptoBulkAll elems + uptoBulkAll spare + 1
  | .agg parts => uptoBulkAll parts + 1
  | .iface _ d => uptoBulk d + 1
  | .map entries => uptoBulkEntries entries + 1
  | .held _ => 1
def uptoBulkAll {H : Type} : List (DataW H) → Nat
  | [] => 0
  | d :: r => uptoBulk d + uptoBulkAll r
def uptoBulkEntries {H : Type} : List (Lit × DataW H) → Nat
  | [] => 0
  | x :: r => uptoBulkEntry x + uptoBulkEntries r
def uptoBulkEntry {H : Type} : Lit × DataW H → Nat
  | (.string bytes, d) => bytes.length + uptoBulk d + 1
  | (_, d) => uptoBulk d + 1
 end
def uptoSmall : (H : Type) → List (DataW H) → Bool := fun _ ds => decide (uptoBulkAll ds ≤ 1048576)
def OpenSpec.upto (s : _root_.Go.ChangeSpec) : _root_.Go.OpenSpec := { _root_.Go.OpenSpec.ofChange s with cond := some uptoSmall }

/-- 'laws.FnExactJoinGrid', WHERE WHAT IT READS IS OF BULK AT MOST 1048576: true; the input reads as it did. -/
def fnExactJoinGridUptoRow : OpenClaim := { program := "ytoodfgfbppkbmaa", sum := "765f5e25eea63c8a60eea8ed257a71d0f241f3334bdc5f92de4ee17c133979c7", func := "loop.example/mirrorgrids/laws.FnExactJoinGrid", spec := "fnExactJoinGrid", plainKeys := false, apart := false, narrowed := true }
def FnExactJoinGridUptoSaid : Prop := fnExactJoinGridUptoRow.holds Try.pinned (OpenSpec.upto fnExactJoinGridSpec)

/-- 'laws.FnExactRoundLengths', WHERE WHAT IT READS IS OF BULK AT MOST 1048576: true; the input reads as it did. -/
def fnExactRoundLengthsUptoRow : OpenClaim := { program := "ytoodfgfbppkbmaa", sum := "765f5e25eea63c8a60eea8ed257a71d0f241f3334bdc5f92de4ee17c133979c7", func := "loop.example/mirrorgrids/laws.FnExactRoundLengths", spec := "fnExactRoundLengths", recurses := true, plainKeys := false, apart := false, narrowed := true }
def FnExactRoundLengthsUptoSaid : Prop := fnExactRoundLengthsUptoRow.holds Try.pinned (OpenSpec.upto fnExactRoundLengthsSpec)

/-- 'laws.FnLengths', WHERE WHAT IT READS IS OF BULK AT MOST 1048576: true; the input reads as it did. -/
def fnLengthsUptoRow : OpenClaim := { program := "ytoodfgfbppkbmaa", sum := "765f5e25eea63c8a60eea8ed257a71d0f241f3334bdc5f92de4ee17c133979c7", func := "loop.example/mirrorgrids/laws.FnLengths", spec := "fnLengths", recurses := true, plainKeys := false, apart := false, narrowed := true }
def FnLengthsUptoSaid : Prop := fnLengthsUptoRow.holds Try.pinned (OpenSpec.upto fnLengthsSpec)

/-- 'laws.FnExactJoinMany', WHERE WHAT IT READS IS OF BULK AT MOST 1048576: true; the input reads as it did. -/
def fnExactJoinManyUptoRow : OpenClaim := { program := "ytoodfgfbppkbmaa", sum := "765f5e25eea63c8a60eea8ed257a71d0f241f3334bdc5f92de4ee17c133979c7", func := "loop.example/mirrorgrids/laws.FnExactJoinMany", spec := "fnExactJoinMany", plainKeys := false, apart := false, narrowed := true }
def FnExactJoinManyUptoSaid : Prop := fnExactJoinManyUptoRow.holds Try.pinned (OpenSpec.upto fnExactJoinManySpec)

/-- 'laws.FnJoinMany', WHERE WHAT IT READS IS OF BULK AT MOST 1048576: true; the input reads as it did. -/
def fnJoinManyUptoRow : OpenClaim := { program := "ytoodfgfbppkbmaa", sum := "765f5e25eea63c8a60eea8ed257a71d0f241f3334bdc5f92de4ee17c133979c7", func := "loop.example/mirrorgrids/laws.FnJoinMany", spec := "fnJoinMany", plainKeys := false, apart := false, narrowed := true }
def FnJoinManyUptoSaid : Prop := fnJoinManyUptoRow.holds Try.pinned (OpenSpec.upto fnJoinManySpec)

/-- 'laws.FnJoinGrid', WHERE WHAT IT READS IS OF BULK AT MOST 1048576: true; the input reads as it did. -/
def fnJoinGridUptoRow : OpenClaim := { program := "ytoodfgfbppkbmaa", sum := "765f5e25eea63c8a60eea8ed257a71d0f241f3334bdc5f92de4ee17c133979c7", func := "loop.example/mirrorgrids/laws.FnJoinGrid", spec := "fnJoinGrid", plainKeys := false, apart := false, narrowed := true }
def FnJoinGridUptoSaid : Prop := fnJoinGridUptoRow.holds Try.pinned (OpenSpec.upto fnJoinGridSpec)

/-- 'laws.FnJoinBeside', WHERE WHAT IT READS IS OF BULK AT MOST 1048576: true; the input reads as it did. -/
def fnJoinBesideUptoRow : OpenClaim := { program := "ytoodfgfbppkbmaa", sum := "765f5e25eea63c8a60eea8ed257a71d0f241f3334bdc5f92de4ee17c133979c7", func := "loop.example/mirrorgrids/laws.FnJoinBeside", spec := "fnJoinBeside", plainKeys := false, apart := false, narrowed := true }
def FnJoinBesideUptoSaid : Prop := fnJoinBesideUptoRow.holds Try.pinned (OpenSpec.upto fnJoinBesideSpec)

end Rows
end Go.Proofs.Ytoodfgfbppkbmaa
