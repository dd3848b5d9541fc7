/-
  No cell of these rows narrows 'for every input' (looked for: loops, veiled, ifaces, maps, wideKeys, modest, calm, conditions, laid).
  DERIVED. THE GIVEN ROWS OF THIS SEAT. 8 by the template 'for every input the law returns true; each argument reads behind the call as it read before'; 0 by the template 'total and deterministic' (their statements: YtfpcfolcdpdomaaTotals.lean).
  GIVEN WITH THE SEED: the statements are not yours to turn. If you find one false, say at which input.
  Laid BY PROGRAM, IN A SANDBOX (cutbox-rows.mjs): the forced cells as the released guide's own fill.sh prints them over the translation f8b712f919e0fd62… (all of the seat's roots in one cut). By AI agents, Wed Nov 11 2026. No macro, syntax, notation, axiom, sorry.
-/
import Derived.Test.YtfpcfolcdpdomaaChecked
import GoSem.Claim
import GoSem.ClaimJoined
import GoSem.ClaimMapViews
import Derived.JoinedTies
import Derived.KernelRfl
namespace Go.Proofs.Ytfpcfolcdpdomaa
/- THE CELL 'sum', in the pinned program and in every row, IS THE sha256 OF THE DUMP (.gsa) THAT YtfpcfolcdpdomaaProg.lean LOADS. Nothing in Lean hashes anything: it is a label: what it is worth is what the hold of that sum in a sandbox is worth. -/
noncomputable def Try.pinned : Pinned := { name := "ytfpcfolcdpdomaa", sum := "f8b712f919e0fd6253f5a38f7c0430a393e3d3f82cec6a206ed18ced9d5342cf", checked := Try.checked }
namespace Rows
def none {H : Type} : Left H := { results := [], args := [] }

/-- 'laws.FnExactJoinRounds': WHATEVER THE INPUT: true; the input reads as it did. -/
def fnExactJoinRoundsSpec : ChangeSpec := { name := "fnExactJoinRounds", fn := fun _ => fun
  | [d1, d2, d3, d4, d5] => { results := [.lit (.bool true)], args := [d1, d2, d3, d4, d5] }
  | _ => none }
def fnExactJoinRoundsRow : OpenClaim := { program := "ytfpcfolcdpdomaa", sum := "f8b712f919e0fd6253f5a38f7c0430a393e3d3f82cec6a206ed18ced9d5342cf", func := "loop.example/mirrorgrids/laws.FnExactJoinRounds", spec := "fnExactJoinRounds", plainKeys := false, apart := false }
def FnExactJoinRoundsSaid : Prop := fnExactJoinRoundsRow.holds Try.pinned (OpenSpec.ofChange fnExactJoinRoundsSpec)

/-- ITS FALSE NEIGHBOUR: 'it returns false'. Refute it at one input. -/
def fnExactJoinRoundsWrong : ChangeSpec := { name := "fnExactJoinRounds", fn := fun _ => fun
  | [d1, d2, d3, d4, d5] => { results := [.lit (.bool false)], args := [d1, d2, d3, d4, d5] }
  | _ => none }
def FnExactJoinRoundsWrongFalsely : Prop := fnExactJoinRoundsRow.holds Try.pinned (OpenSpec.ofChange fnExactJoinRoundsWrong)

/-- 'laws.FnExactJoinPairs': WHATEVER THE INPUT: true; the input reads as it did. -/
def fnExactJoinPairsSpec : ChangeSpec := { name := "fnExactJoinPairs", fn := fun _ => fun
  | [d1, d2, d3, d4, d5] => { results := [.lit (.bool true)], args := [d1, d2, d3, d4, d5] }
  | _ => none }
def fnExactJoinPairsRow : OpenClaim := { program := "ytfpcfolcdpdomaa", sum := "f8b712f919e0fd6253f5a38f7c0430a393e3d3f82cec6a206ed18ced9d5342cf", func := "loop.example/mirrorgrids/laws.FnExactJoinPairs", spec := "fnExactJoinPairs", plainKeys := false, apart := false }
def FnExactJoinPairsSaid : Prop := fnExactJoinPairsRow.holds Try.pinned (OpenSpec.ofChange fnExactJoinPairsSpec)

/-- ITS FALSE NEIGHBOUR: 'it returns false'. Refute it at one input. -/
def fnExactJoinPairsWrong : ChangeSpec := { name := "fnExactJoinPairs", fn := fun _ => fun
  | [d1, d2, d3, d4, d5] => { results := [.lit (.bool false)], args := [d1, d2, d3, d4, d5] }
  | _ => none }
def FnExactJoinPairsWrongFalsely : Prop := fnExactJoinPairsRow.holds Try.pinned (OpenSpec.ofChange fnExactJoinPairsWrong)

/-- 'laws.FnExactJoinClose': WHATEVER THE INPUT: true; the input reads as it did. -/
def fnExactJoinCloseSpec : ChangeSpec := { name := "fnExactJoinClose", fn := fun _ => fun
  | [d1, d2, d3] => { results := [.lit (.bool true)], args := [d1, d2, d3] }
  | _ => none }
def fnExactJoinCloseRow : OpenClaim := { program := "ytfpcfolcdpdomaa", sum := "f8b712f919e0fd6253f5a38f7c0430a393e3d3f82cec6a206ed18ced9d5342cf", func := "loop.example/mirrorgrids/laws.FnExactJoinClose", spec := "fnExactJoinClose", plainKeys := false, apart := false }
def FnExactJoinCloseSaid : Prop := fnExactJoinCloseRow.holds Try.pinned (OpenSpec.ofChange fnExactJoinCloseSpec)

/-- ITS FALSE NEIGHBOUR: 'it returns false'. Refute it at one input. -/
def fnExactJoinCloseWrong : ChangeSpec := { name := "fnExactJoinClose", fn := fun _ => fun
  | [d1, d2, d3] => { results := [.lit (.bool false)], args := [d1, d2, d3] }
  | _ => none }
def FnExactJoinCloseWrongFalsely : Prop := fnExactJoinCloseRow.holds Try.pinned (OpenSpec.ofChange fnExactJoinCloseWrong)

/-- 'laws.FnClose': WHATEVER THE INPUT: true; the input reads as it did. -/
def fnCloseSpec : ChangeSpec := { name := "fnClose", fn := fun _ => fun
  | [d] => { results := [.lit (.bool true)], args := [d] }
  | _ => none }
def fnCloseRow : OpenClaim := { program := "ytfpcfolcdpdomaa", sum := "f8b712f919e0fd6253f5a38f7c0430a393e3d3f82cec6a206ed18ced9d5342cf", func := "loop.example/mirrorgrids/laws.FnClose", spec := "fnClose", unfollowed := true, recurses := true, plainKeys := false, apart := false }
def FnCloseSaid : Prop := fnCloseRow.holds Try.pinned (OpenSpec.ofChange fnCloseSpec)

/-- ITS FALSE NEIGHBOUR: 'it returns false'. Refute it at one input. -/
def fnCloseWrong : ChangeSpec := { name := "fnClose", fn := fun _ => fun
  | [d] => { results := [.lit (.bool false)], args := [d] }
  | _ => none }
def FnCloseWrongFalsely : Prop := fnCloseRow.holds Try.pinned (OpenSpec.ofChange fnCloseWrong)

/-- 'laws.FnJoinChords': WHATEVER THE INPUT: true; the input reads as it did. -/
def fnJoinChordsSpec : ChangeSpec := { name := "fnJoinChords", fn := fun _ => fun
  | [d] => { results := [.lit (.bool true)], args := [d] }
  | _ => none }
def fnJoinChordsRow : OpenClaim := { program := "ytfpcfolcdpdomaa", sum := "f8b712f919e0fd6253f5a38f7c0430a393e3d3f82cec6a206ed18ced9d5342cf", func := "loop.example/mirrorgrids/laws.FnJoinChords", spec := "fnJoinChords", plainKeys := false, apart := false }
def FnJoinChordsSaid : Prop := fnJoinChordsRow.holds Try.pinned (OpenSpec.ofChange fnJoinChordsSpec)

/-- ITS FALSE NEIGHBOUR: 'it returns false'. Refute it at one input. -/
def fnJoinChordsWrong : ChangeSpec := { name := "fnJoinChords", fn := fun _ => fun
  | [d] => { results := [.lit (.bool false)], args := [d] }
  | _ => none }
def FnJoinChordsWrongFalsely : Prop := fnJoinChordsRow.holds Try.pinned (OpenSpec.ofChange fnJoinChordsWrong)

/-- 'laws.FnJoinRounds': WHATEVER THE INPUT: true; the input reads as it did. -/
def fnJoinRoundsSpec : ChangeSpec := { name := "fnJoinRounds", fn := fun _ => fun
  | [d] => { results := [.lit (.bool true)], args := [d] }
  | _ => none }
def fnJoinRoundsRow : OpenClaim := { program := "ytfpcfolcdpdomaa", sum := "f8b712f919e0fd6253f5a38f7c0430a393e3d3f82cec6a206ed18ced9d5342cf", func := "loop.example/mirrorgrids/laws.FnJoinRounds", spec := "fnJoinRounds", unfollowed := true, recurses := true, plainKeys := false, apart := false }
def FnJoinRoundsSaid : Prop := fnJoinRoundsRow.holds Try.pinned (OpenSpec.ofChange fnJoinRoundsSpec)

/-- ITS FALSE NEIGHBOUR: 'it returns false'. Refute it at one input. -/
def fnJoinRoundsWrong : ChangeSpec := { name := "fnJoinRounds", fn := fun _ => fun
  | [d] => { results := [.lit (.bool false)], args := [d] }
  | _ => none }
def FnJoinRoundsWrongFalsely : Prop := fnJoinRoundsRow.holds Try.pinned (OpenSpec.ofChange fnJoinRoundsWrong)

/-- 'laws.FnJoin': WHATEVER THE INPUT: true; the input reads as it did. -/
def fnJoinSpec : ChangeSpec := { name := "fnJoin", fn := fun _ => fun
  | [d] => { results := [.lit (.bool true)], args := [d] }
  | _ => none }
def fnJoinRow : OpenClaim := { program := "ytfpcfolcdpdomaa", sum := "f8b712f919e0fd6253f5a38f7c0430a393e3d3f82cec6a206ed18ced9d5342cf", func := "loop.example/mirrorgrids/laws.FnJoin", spec := "fnJoin", unfollowed := true, recurses := true, plainKeys := false, apart := false }
def FnJoinSaid : Prop := fnJoinRow.holds Try.pinned (OpenSpec.ofChange fnJoinSpec)

/-- ITS FALSE NEIGHBOUR: 'it returns false'. Refute it at one input. -/
def fnJoinWrong : ChangeSpec := { name := "fnJoin", fn := fun _ => fun
  | [d] => { results := [.lit (.bool false)], args := [d] }
  | _ => none }
def FnJoinWrongFalsely : Prop := fnJoinRow.holds Try.pinned (OpenSpec.ofChange fnJoinWrong)

/-- 'laws.FnCloseBoth': WHATEVER THE INPUT: true; the input reads as it did. -/
def fnCloseBothSpec : ChangeSpec := { name := "fnCloseBoth", fn := fun _ => fun
  | [d] => { results := [.lit (.bool true)], args := [d] }
  | _ => none }
def fnCloseBothRow : OpenClaim := { program := "ytfpcfolcdpdomaa", sum := "f8b712f919e0fd6253f5a38f7c0430a393e3d3f82cec6a206ed18ced9d5342cf", func := "loop.example/mirrorgrids/laws.FnCloseBoth", spec := "fnCloseBoth", plainKeys := false, apart := false }
def FnCloseBothSaid : Prop := fnCloseBothRow.holds Try.pinned (OpenSpec.ofChange fnCloseBothSpec)

/-- ITS FALSE NEIGHBOUR: 'it returns false'. Refute it at one input. -/
def fnCloseBothWrong : ChangeSpec := { name := "fnCloseBoth", fn := fun _ => fun
  | [d] => { results := [.lit (.bool false)], args := [d] }
  | _ => none }
def FnCloseBothWrongFalsely : Prop := fnCloseBothRow.holds Try.pinned (OpenSpec.ofChange fnCloseBothWrong)

/- THE SECOND FORM. 'bulk': how many values and letters a reading holds, each counted each time it is reached (what is shared counts as often as it is met; a slice's spare places count too). A statement '..UptoSaid' is the law's where the arguments, and the package variables that the reading takes, are together of bulk at most 1048576: NARROWER than '..Said'. Prove '..Said' where nothing that the law and all that it calls make is longer than what came in: it says more and counts as full. Else prove '..UptoSaid'. A law counts once. -/
mutual
def uptoBulk {H : Type} : DataW H → Nat
  | .lit (.string bytes) => bytes.length + 1
  | .lit _ => 1
  | .nil => 1
  | .ptr d => uptoBulk d + 1
  | .slice elems spare => uptoBulkAll elems + uptoBulkAll spare + 1
  | .agg parts => uptoBulkAll parts + 1
  | .iface _ d => uptoBulk d + 1
  | .map entries => uptoBulkEntries entries + 1
  | .held _ => 1
def uptoBulkAll {H : Type} : List (DataW H) → Nat
  | [] => 0
  | d :: r => uptoBulk d + uptoBulkAll r
def uptoBulkEntries {H : Type} : List (Lit × DataW H) → Nat
  | [] => 0
  | x :: r => uptoBulkEntry x + uptoBulkEntries r
def uptoBulkEntry {H : Type} : Lit × DataW H → Nat
  | (.string bytes, d) => bytes.length + uptoBulk d + 1
  | (_, d) => uptoBulk d + 1
 end
def uptoSmall : (H : Type) → List (DataW H) → Bool := fun _ ds => decide (uptoBulkAll ds ≤ 1048576)
def OpenSpec.upto (s : _root_.Go.ChangeSpec) : _root_.Go.OpenSpec := { _root_.Go.OpenSpec.ofChange s with cond := some uptoSmall }

/-- 'laws.FnExactJoinRounds', WHERE WHAT IT READS IS OF BULK AT MOST 1048576: true; the input reads as it did. -/
def fnExactJoinRoundsUptoRow : OpenClaim := { program := "ytfpcfolcdpdomaa", sum := "f8b712f919e0fd6253f5a38f7c0430a393e3d3f82cec6a206ed18ced9d5342cf", func := "loop.example/mirrorgrids/laws.FnExactJoinRounds", spec := "fnExactJoinRounds", plainKeys := false, apart := false, narrowed := true }
def FnExactJoinRoundsUptoSaid : Prop := fnExactJoinRoundsUptoRow.holds Try.pinned (OpenSpec.upto fnExactJoinRoundsSpec)

/-- 'laws.FnExactJoinPairs', WHERE WHAT IT READS IS OF BULK AT MOST 1048576: true; the input reads as it did. -/
def fnExactJoinPairsUptoRow : OpenClaim := { program := "ytfpcfolcdpdomaa", sum := "f8b712f919e0fd6253f5a38f7c0430a393e3d3f82cec6a206ed18ced9d5342cf", func := "loop.example/mirrorgrids/laws.FnExactJoinPairs", spec := "fnExactJoinPairs", plainKeys := false, apart := false, narrowed := true }
def FnExactJoinPairsUptoSaid : Prop := fnExactJoinPairsUptoRow.holds Try.pinned (OpenSpec.upto fnExactJoinPairsSpec)

/-- 'laws.FnExactJoinClose', WHERE WHAT IT READS IS OF BULK AT MOST 1048576: true; the input reads as it did. -/
def fnExactJoinCloseUptoRow : OpenClaim := { program := "ytfpcfolcdpdomaa", sum := "f8b712f919e0fd6253f5a38f7c0430a393e3d3f82cec6a206ed18ced9d5342cf", func := "loop.example/mirrorgrids/laws.FnExactJoinClose", spec := "fnExactJoinClose", plainKeys := false, apart := false, narrowed := true }
def FnExactJoinCloseUptoSaid : Prop := fnExactJoinCloseUptoRow.holds Try.pinned (OpenSpec.upto fnExactJoinCloseSpec)

/-- 'laws.FnClose', WHERE WHAT IT READS IS OF BULK AT MOST 1048576: true; the input reads as it did. -/
def fnCloseUptoRow : OpenClaim := { program := "ytfpcfolcdpdomaa", sum := "f8b712f919e0fd6253f5a38f7c0430a393e3d3f82cec6a206ed18ced9d5342cf", func := "loop.example/mirrorgrids/laws.FnClose", spec := "fnClose", unfollowed := true, recurses := true, plainKeys := false, apart := false, narrowed := true }
def FnCloseUptoSaid : Prop := fnCloseUptoRow.holds Try.pinned (OpenSpec.upto fnCloseSpec)

/-- 'laws.FnJoinChords', WHERE WHAT IT READS IS OF BULK AT MOST 1048576: true; the input reads as it did. -/
def fnJoinChordsUptoRow : OpenClaim := { program := "ytfpcfolcdpdomaa", sum := "f8b712f919e0fd6253f5a38f7c0430a393e3d3f82cec6a206ed18ced9d5342cf", func := "loop.example/mirrorgrids/laws.FnJoinChords", spec := "fnJoinChords", plainKeys := false, apart := false, narrowed := true }
def FnJoinChordsUptoSaid : Prop := fnJoinChordsUptoRow.holds Try.pinned (OpenSpec.upto fnJoinChordsSpec)

/-- 'laws.FnJoinRounds', WHERE WHAT IT READS IS OF BULK AT MOST 1048576: true; the input reads as it did. -/
def fnJoinRoundsUptoRow : OpenClaim := { program := "ytfpcfolcdpdomaa", sum := "f8b712f919e0fd6253f5a38f7c0430a393e3d3f82cec6a206ed18ced9d5342cf", func := "loop.example/mirrorgrids/laws.FnJoinRounds", spec := "fnJoinRounds", unfollowed := true, recurses := true, plainKeys := false, apart := false, narrowed := true }
def FnJoinRoundsUptoSaid : Prop := fnJoinRoundsUptoRow.holds Try.pinned (OpenSpec.upto fnJoinRoundsSpec)

/-- 'laws.FnJoin', WHERE WHAT IT READS IS OF BULK AT MOST 1048576: true; the input reads as it did. -/
def fnJoinUptoRow : OpenClaim := { program := "ytfpcfolcdpdomaa", sum := "f8b712f919e0fd6253f5a38f7c0430a393e3d3f82cec6a206ed18ced9d5342cf", func := "loop.example/mirrorgrids/laws.FnJoin", spec := "fnJoin", unfollowed := true, recurses := true, plainKeys := false, apart := false, narrowed := true }
def FnJoinUptoSaid : Prop := fnJoinUptoRow.holds Try.pinned (OpenSpec.upto fnJoinSpec)

/-- 'laws.FnCloseBoth', WHERE WHAT IT READS IS OF BULK AT MOST 1048576: true; the input reads as it did. -/
def fnCloseBothUptoRow : OpenClaim := { program := "ytfpcfolcdpdomaa", sum := "f8b712f919e0fd6253f5a38f7c0430a393e3d3f82cec6a206ed18ced9d5342cf", func := "loop.example/mirrorgrids/laws.FnCloseBoth", spec := "fnCloseBoth", plainKeys := false, apart := false, narrowed := true }
def FnCloseBothUptoSaid : Prop := fnCloseBothUptoRow.holds Try.pinned (OpenSpec.upto fnCloseBothSpec)

end Rows
end Go.Proofs.Ytfpcfolcdpdomaa
