/-
  No cell of these rows narrows 'for every input' (looked for: loops, veiled, ifaces, maps, wideKeys, modest, calm, conditions, laid).
  DERIVED. THE GIVEN ROWS OF THIS SEAT. 7 by the template 'for every input the law returns true; each argument reads behind the call as it read before'; 0 by the template 'total and deterministic' (their statements: YtoabhbdglgmcdaaTotals.lean).
  GIVEN WITH THE SEED: the statements are not yours to turn. If you find one false, say at which input.
  Laid BY PROGRAM, IN A SANDBOX (cutbox-rows.mjs): the forced cells as the released guide's own fill.sh prints them over the translation dd6071fbfbc48065… (all of the seat's roots in one cut). By AI agents, Wed Nov 11 2026. No macro, syntax, notation, axiom, sorry.
-/
import Derived.Test.YtoabhbdglgmcdaaChecked
import GoSem.Claim
import GoSem.ClaimJoined
import GoSem.ClaimMapViews
import Derived.JoinedTies
import Derived.KernelRfl
namespace Go.Proofs.Ytoabhbdglgmcdaa
/- THE CELL 'sum', in the pinned program and in every row, IS THE sha256 OF THE DUMP (.gsa) THAT YtoabhbdglgmcdaaProg.lean LOADS. Nothing in Lean hashes anything: it is a label: what it is worth is what the hold of that sum in a sandbox is worth. -/
noncomputable def Try.pinned : Pinned := { name := "ytoabhbdglgmcdaa", sum := "dd6071fbfbc480657a9874a34b903e3971f50c0aca5fd4b3f0d64d511ab02a3a", checked := Try.checked }
namespace Rows
def none {H : Type} : Left H := { results := [], args := [] }

/-- 'laws.FnExactMakeMany': WHATEVER THE INPUT: true; the input reads as it did. -/
def fnExactMakeManySpec : ChangeSpec := { name := "fnExactMakeMany", fn := fun _ => fun
  | [d1, d2, d3] => { results := [.lit (.bool true)], args := [d1, d2, d3] }
  | _ => none }
def fnExactMakeManyRow : OpenClaim := { program := "ytoabhbdglgmcdaa", sum := "dd6071fbfbc480657a9874a34b903e3971f50c0aca5fd4b3f0d64d511ab02a3a", func := "loop.example/mirrorgrids/laws.FnExactMakeMany", spec := "fnExactMakeMany", unfollowed := true, recurses := true, apart := false }
def FnExactMakeManySaid : Prop := fnExactMakeManyRow.holds Try.pinned (OpenSpec.ofChange fnExactMakeManySpec)

/-- ITS FALSE NEIGHBOUR: 'it returns false'. Refute it at one input. -/
def fnExactMakeManyWrong : ChangeSpec := { name := "fnExactMakeMany", fn := fun _ => fun
  | [d1, d2, d3] => { results := [.lit (.bool false)], args := [d1, d2, d3] }
  | _ => none }
def FnExactMakeManyWrongFalsely : Prop := fnExactMakeManyRow.holds Try.pinned (OpenSpec.ofChange fnExactMakeManyWrong)

/-- 'laws.FnExactMakeFirst': WHATEVER THE INPUT: true; the input reads as it did. -/
def fnExactMakeFirstSpec : ChangeSpec := { name := "fnExactMakeFirst", fn := fun _ => fun
  | [d1, d2, d3] => { results := [.lit (.bool true)], args := [d1, d2, d3] }
  | _ => none }
def fnExactMakeFirstRow : OpenClaim := { program := "ytoabhbdglgmcdaa", sum := "dd6071fbfbc480657a9874a34b903e3971f50c0aca5fd4b3f0d64d511ab02a3a", func := "loop.example/mirrorgrids/laws.FnExactMakeFirst", spec := "fnExactMakeFirst", unfollowed := true, recurses := true, apart := false }
def FnExactMakeFirstSaid : Prop := fnExactMakeFirstRow.holds Try.pinned (OpenSpec.ofChange fnExactMakeFirstSpec)

/-- ITS FALSE NEIGHBOUR: 'it returns false'. Refute it at one input. -/
def fnExactMakeFirstWrong : ChangeSpec := { name := "fnExactMakeFirst", fn := fun _ => fun
  | [d1, d2, d3] => { results := [.lit (.bool false)], args := [d1, d2, d3] }
  | _ => none }
def FnExactMakeFirstWrongFalsely : Prop := fnExactMakeFirstRow.holds Try.pinned (OpenSpec.ofChange fnExactMakeFirstWrong)

/-- 'laws.FnExactMakeFewest': WHATEVER THE INPUT: true; the input reads as it did. -/
def fnExactMakeFewestSpec : ChangeSpec := { name := "fnExactMakeFewest", fn := fun _ => fun
  | [d1, d2, d3] => { results := [.lit (.bool true)], args := [d1, d2, d3] }
  | _ => none }
def fnExactMakeFewestRow : OpenClaim := { program := "ytoabhbdglgmcdaa", sum := "dd6071fbfbc480657a9874a34b903e3971f50c0aca5fd4b3f0d64d511ab02a3a", func := "loop.example/mirrorgrids/laws.FnExactMakeFewest", spec := "fnExactMakeFewest", unfollowed := true, recurses := true, apart := false }
def FnExactMakeFewestSaid : Prop := fnExactMakeFewestRow.holds Try.pinned (OpenSpec.ofChange fnExactMakeFewestSpec)

/-- ITS FALSE NEIGHBOUR: 'it returns false'. Refute it at one input. -/
def fnExactMakeFewestWrong : ChangeSpec := { name := "fnExactMakeFewest", fn := fun _ => fun
  | [d1, d2, d3] => { results := [.lit (.bool false)], args := [d1, d2, d3] }
  | _ => none }
def FnExactMakeFewestWrongFalsely : Prop := fnExactMakeFewestRow.holds Try.pinned (OpenSpec.ofChange fnExactMakeFewestWrong)

/-- 'laws.FnMakeMany': WHATEVER THE INPUT: true; the input reads as it did. -/
def fnMakeManySpec : ChangeSpec := { name := "fnMakeMany", fn := fun _ => fun
  | [d] => { results := [.lit (.bool true)], args := [d] }
  | _ => none }
def fnMakeManyRow : OpenClaim := { program := "ytoabhbdglgmcdaa", sum := "dd6071fbfbc480657a9874a34b903e3971f50c0aca5fd4b3f0d64d511ab02a3a", func := "loop.example/mirrorgrids/laws.FnMakeMany", spec := "fnMakeMany", unfollowed := true, recurses := true, apart := false }
def FnMakeManySaid : Prop := fnMakeManyRow.holds Try.pinned (OpenSpec.ofChange fnMakeManySpec)

/-- ITS FALSE NEIGHBOUR: 'it returns false'. Refute it at one input. -/
def fnMakeManyWrong : ChangeSpec := { name := "fnMakeMany", fn := fun _ => fun
  | [d] => { results := [.lit (.bool false)], args := [d] }
  | _ => none }
def FnMakeManyWrongFalsely : Prop := fnMakeManyRow.holds Try.pinned (OpenSpec.ofChange fnMakeManyWrong)

/-- 'laws.FnMakeSum': WHATEVER THE INPUT: true; the input reads as it did. -/
def fnMakeSumSpec : ChangeSpec := { name := "fnMakeSum", fn := fun _ => fun
  | [d] => { results := [.lit (.bool true)], args := [d] }
  | _ => none }
def fnMakeSumRow : OpenClaim := { program := "ytoabhbdglgmcdaa", sum := "dd6071fbfbc480657a9874a34b903e3971f50c0aca5fd4b3f0d64d511ab02a3a", func := "loop.example/mirrorgrids/laws.FnMakeSum", spec := "fnMakeSum", unfollowed := true, recurses := true, apart := false }
def FnMakeSumSaid : Prop := fnMakeSumRow.holds Try.pinned (OpenSpec.ofChange fnMakeSumSpec)

/-- ITS FALSE NEIGHBOUR: 'it returns false'. Refute it at one input. -/
def fnMakeSumWrong : ChangeSpec := { name := "fnMakeSum", fn := fun _ => fun
  | [d] => { results := [.lit (.bool false)], args := [d] }
  | _ => none }
def FnMakeSumWrongFalsely : Prop := fnMakeSumRow.holds Try.pinned (OpenSpec.ofChange fnMakeSumWrong)

/-- 'laws.FnMakeTurn': WHATEVER THE INPUT: true; the input reads as it did. -/
def fnMakeTurnSpec : ChangeSpec := { name := "fnMakeTurn", fn := fun _ => fun
  | [d] => { results := [.lit (.bool true)], args := [d] }
  | _ => none }
def fnMakeTurnRow : OpenClaim := { program := "ytoabhbdglgmcdaa", sum := "dd6071fbfbc480657a9874a34b903e3971f50c0aca5fd4b3f0d64d511ab02a3a", func := "loop.example/mirrorgrids/laws.FnMakeTurn", spec := "fnMakeTurn", unfollowed := true, recurses := true, apart := false }
def FnMakeTurnSaid : Prop := fnMakeTurnRow.holds Try.pinned (OpenSpec.ofChange fnMakeTurnSpec)

/-- ITS FALSE NEIGHBOUR: 'it returns false'. Refute it at one input. -/
def fnMakeTurnWrong : ChangeSpec := { name := "fnMakeTurn", fn := fun _ => fun
  | [d] => { results := [.lit (.bool false)], args := [d] }
  | _ => none }
def FnMakeTurnWrongFalsely : Prop := fnMakeTurnRow.holds Try.pinned (OpenSpec.ofChange fnMakeTurnWrong)

/-- 'laws.FnMakeFirst': WHATEVER THE INPUT: true; the input reads as it did. -/
def fnMakeFirstSpec : ChangeSpec := { name := "fnMakeFirst", fn := fun _ => fun
  | [d] => { results := [.lit (.bool true)], args := [d] }
  | _ => none }
def fnMakeFirstRow : OpenClaim := { program := "ytoabhbdglgmcdaa", sum := "dd6071fbfbc480657a9874a34b903e3971f50c0aca5fd4b3f0d64d511ab02a3a", func := "loop.example/mirrorgrids/laws.FnMakeFirst", spec := "fnMakeFirst", unfollowed := true, recurses := true, apart := false }
def FnMakeFirstSaid : Prop := fnMakeFirstRow.holds Try.pinned (OpenSpec.ofChange fnMakeFirstSpec)

/-- ITS FALSE NEIGHBOUR: 'it returns false'. Refute it at one input. -/
def fnMakeFirstWrong : ChangeSpec := { name := "fnMakeFirst", fn := fun _ => fun
  | [d] => { results := [.lit (.bool false)], args := [d] }
  | _ => none }
def FnMakeFirstWrongFalsely : Prop := fnMakeFirstRow.holds Try.pinned (OpenSpec.ofChange fnMakeFirstWrong)

/- THE SECOND FORM. 'bulk': how many values and letters a reading holds, each counted each time it is reached (what is shared counts as often as it is met; a slice's spare places count too). A statement '..UptoSaid' is the law's where the arguments, and the package variables that the reading takes, are together of bulk at most 1048576: NARROWER than '..Said'. Prove '..Said' where nothing that the law and all that it calls make is longer than what came in: it says more and counts as full. Else prove '..UptoSaid'. A law counts once. -/
mutual
def uptoBulk {H : Type} : DataW H → Nat
  | .lit (.string bytes) => bytes.length + 1
  | .lit _ => 1
  | .nil => 1
  | .ptr d => uptoBulk d + 1
  | .slice elems spare => uptoBulkAll elems + uptoBulkAll spare + 1
  | .agg parts => uptoBulkAll parts + 1
  | .iface _ d => uptoBulk d + 1
  | .map entries => uptoBulkEntries entries + 1
  | .held _ => 1
def uptoBulkAll {H : Type} : List (DataW H) → Nat
  | [] => 0
  | d :: r => uptoBulk d + uptoBulkAll r
def uptoBulkEntries {H : Type} : List (Lit × DataW H) → Nat
  | [] => 0
  | x :: r => uptoBulkEntry x + uptoBulkEntries r
def uptoBulkEntry {H : Type} : Lit × DataW H → Nat
  | (.string bytes, d) => bytes.length + uptoBulk d + 1
  | (_, d) => uptoBulk d + 1
 end
def uptoSmall : (H : Type) → List (DataW H) → Bool := fun _ ds => decide (uptoBulkAll ds ≤ 1048576)
def OpenSpec.upto (s : _root_.Go.ChangeSpec) : _root_.Go.OpenSpec := { _root_.Go.OpenSpec.ofChange s with cond := some uptoSmall }

/-- 'laws.FnExactMakeMany', WHERE WHAT IT READS IS OF BULK AT MOST 1048576: true; the input reads as it did. -/
def fnExactMakeManyUptoRow : OpenClaim := { program := "ytoabhbdglgmcdaa", sum := "dd6071fbfbc480657a9874a34b903e3971f50c0aca5fd4b3f0d64d511ab02a3a", func := "loop.example/mirrorgrids/laws.FnExactMakeMany", spec := "fnExactMakeMany", unfollowed := true, recurses := true, apart := false, narrowed := true }
def FnExactMakeManyUptoSaid : Prop := fnExactMakeManyUptoRow.holds Try.pinned (OpenSpec.upto fnExactMakeManySpec)

/-- 'laws.FnExactMakeFirst', WHERE WHAT IT READS IS OF BULK AT MOST 1048576: true; the input reads as it did. -/
def fnExactMakeFirstUptoRow : OpenClaim := { program := "ytoabhbdglgmcdaa", sum := "dd6071fbfbc480657a9874a34b903e3971f50c0aca5fd4b3f0d64d511ab02a3a", func := "loop.example/mirrorgrids/laws.FnExactMakeFirst", spec := "fnExactMakeFirst", unfollowed := true, recurses := true, apart := false, narrowed := true }
def FnExactMakeFirstUptoSaid : Prop := fnExactMakeFirstUptoRow.holds Try.pinned (OpenSpec.upto fnExactMakeFirstSpec)

/-- 'laws.FnExactMakeFewest', WHERE WHAT IT READS IS OF BULK AT MOST 1048576: true; the input reads as it did. -/
def fnExactMakeFewestUptoRow : OpenClaim := { program := "ytoabhbdglgmcdaa", sum := "dd6071fbfbc480657a9874a34b903e3971f50c0aca5fd4b3f0d64d511ab02a3a", func := "loop.example/mirrorgrids/laws.FnExactMakeFewest", spec := "fnExactMakeFewest", unfollowed := true, recurses := true, apart := false, narrowed := true }
def FnExactMakeFewestUptoSaid : Prop := fnExactMakeFewestUptoRow.holds Try.pinned (OpenSpec.upto fnExactMakeFewestSpec)

/-- 'laws.FnMakeMany', WHERE WHAT IT READS IS OF BULK AT MOST 1048576: true; the input reads as it did. -/
def fnMakeManyUptoRow : OpenClaim := { program := "ytoabhbdglgmcdaa", sum := "dd6071fbfbc480657a9874a34b903e3971f50c0aca5fd4b3f0d64d511ab02a3a", func := "loop.example/mirrorgrids/laws.FnMakeMany", spec := "fnMakeMany", unfollowed := true, recurses := true, apart := false, narrowed := true }
def FnMakeManyUptoSaid : Prop := fnMakeManyUptoRow.holds Try.pinned (OpenSpec.upto fnMakeManySpec)

/-- 'laws.FnMakeSum', WHERE WHAT IT READS IS OF BULK AT MOST 1048576: true; the input reads as it did. -/
def fnMakeSumUptoRow : OpenClaim := { program := "ytoabhbdglgmcdaa", sum := "dd6071fbfbc480657a9874a34b903e3971f50c0aca5fd4b3f0d64d511ab02a3a", func := "loop.example/mirrorgrids/laws.FnMakeSum", spec := "fnMakeSum", unfollowed := true, recurses := true, apart := false, narrowed := true }
def FnMakeSumUptoSaid : Prop := fnMakeSumUptoRow.holds Try.pinned (OpenSpec.upto fnMakeSumSpec)

/-- 'laws.FnMakeTurn', WHERE WHAT IT READS IS OF BULK AT MOST 1048576: true; the input reads as it did. -/
def fnMakeTurnUptoRow : OpenClaim := { program := "ytoabhbdglgmcdaa", sum := "dd6071fbfbc480657a9874a34b903e3971f50c0aca5fd4b3f0d64d511ab02a3a", func := "loop.example/mirrorgrids/laws.FnMakeTurn", spec := "fnMakeTurn", unfollowed := true, recurses := true, apart := false, narrowed := true }
def FnMakeTurnUptoSaid : Prop := fnMakeTurnUptoRow.holds Try.pinned (OpenSpec.upto fnMakeTurnSpec)

/-- 'laws.FnMakeFirst', WHERE WHAT IT READS IS OF BULK AT MOST 1048576: true; the input reads as it did. -/
def fnMakeFirstUptoRow : OpenClaim := { program := "ytoabhbdglgmcdaa", sum := "dd6071fbfbc480657a9874a34b903e3971f50c0aca5fd4b3f0d64d511ab02a3a", func := "loop.example/mirrorgrids/laws.FnMakeFirst", spec := "fnMakeFirst", unfollowed := true, recurses := true, apart := false, narrowed := true }
def FnMakeFirstUptoSaid : Prop := fnMakeFirstUptoRow.holds Try.pinned (OpenSpec.upto fnMakeFirstSpec)

end Rows
end Go.Proofs.Ytoabhbdglgmcdaa
