/-
  No cell of these rows narrows 'for every input' (looked for: loops, veiled, ifaces, maps, wideKeys, modest, calm, conditions, laid).
  DERIVED. THE GIVEN ROWS OF THIS SEAT. 6 by the template 'for every input the law returns true; each argument reads behind the call as it read before'; 0 by the template 'total and deterministic' (their statements: YtcigmmafmogmkaaTotals.lean).
  GIVEN WITH THE SEED: the statements are not yours to turn. If you find one false, say at which input.
  Laid BY PROGRAM, IN A SANDBOX (cutbox-rows.mjs): the forced cells as the released guide's own fill.sh prints them over the translation 936645427132ba1b… (all of the seat's roots in one cut). By AI agents, Wed Nov 11 2026. No macro, syntax, notation, axiom, sorry.
-/
import Derived.Test.YtcigmmafmogmkaaChecked
import GoSem.Claim
import GoSem.ClaimJoined
import GoSem.ClaimMapViews
import Derived.JoinedTies
import Derived.KernelRfl
namespace Go.Proofs.Ytcigmmafmogmkaa
/- THE CELL 'sum', in the pinned program and in every row, IS THE sha256 OF THE DUMP (.gsa) THAT YtcigmmafmogmkaaProg.lean LOADS. Nothing in Lean hashes anything: it is a label: what it is worth is what the hold of that sum in a sandbox is worth. -/
noncomputable def Try.pinned : Pinned := { name := "ytcigmmafmogmkaa", sum := "936645427132ba1bafd553f56b0950c2175d2a8296ef8a6df42f3311466e70a3", checked := Try.checked }
namespace Rows
def none {H : Type} : Left H := { results := [], args := [] }

/-- 'laws.FnExactCrossTotal': WHATEVER THE INPUT: true; the input reads as it did. -/
def fnExactCrossTotalSpec : ChangeSpec := { name := "fnExactCrossTotal", fn := fun _ => fun
  | [d] => { results := [.lit (.bool true)], args := [d] }
  | _ => none }
def fnExactCrossTotalRow : OpenClaim := { program := "ytcigmmafmogmkaa", sum := "936645427132ba1bafd553f56b0950c2175d2a8296ef8a6df42f3311466e70a3", func := "loop.example/mirrorgrids/laws.FnExactCrossTotal", spec := "fnExactCrossTotal", unfollowed := true, recurses := true, plainKeys := false, apart := false }
def FnExactCrossTotalSaid : Prop := fnExactCrossTotalRow.holds Try.pinned (OpenSpec.ofChange fnExactCrossTotalSpec)

/-- ITS FALSE NEIGHBOUR: 'it returns false'. Refute it at one input. -/
def fnExactCrossTotalWrong : ChangeSpec := { name := "fnExactCrossTotal", fn := fun _ => fun
  | [d] => { results := [.lit (.bool false)], args := [d] }
  | _ => none }
def FnExactCrossTotalWrongFalsely : Prop := fnExactCrossTotalRow.holds Try.pinned (OpenSpec.ofChange fnExactCrossTotalWrong)

/-- 'laws.FnExactCrossBeams': WHATEVER THE INPUT: true; the input reads as it did. -/
def fnExactCrossBeamsSpec : ChangeSpec := { name := "fnExactCrossBeams", fn := fun _ => fun
  | [d] => { results := [.lit (.bool true)], args := [d] }
  | _ => none }
def fnExactCrossBeamsRow : OpenClaim := { program := "ytcigmmafmogmkaa", sum := "936645427132ba1bafd553f56b0950c2175d2a8296ef8a6df42f3311466e70a3", func := "loop.example/mirrorgrids/laws.FnExactCrossBeams", spec := "fnExactCrossBeams", unfollowed := true, recurses := true, plainKeys := false, apart := false }
def FnExactCrossBeamsSaid : Prop := fnExactCrossBeamsRow.holds Try.pinned (OpenSpec.ofChange fnExactCrossBeamsSpec)

/-- ITS FALSE NEIGHBOUR: 'it returns false'. Refute it at one input. -/
def fnExactCrossBeamsWrong : ChangeSpec := { name := "fnExactCrossBeams", fn := fun _ => fun
  | [d] => { results := [.lit (.bool false)], args := [d] }
  | _ => none }
def FnExactCrossBeamsWrongFalsely : Prop := fnExactCrossBeamsRow.holds Try.pinned (OpenSpec.ofChange fnExactCrossBeamsWrong)

/-- 'laws.FnTotal': WHATEVER THE INPUT: true; the input reads as it did. -/
def fnTotalSpec : ChangeSpec := { name := "fnTotal", fn := fun _ => fun
  | [d] => { results := [.lit (.bool true)], args := [d] }
  | _ => none }
def fnTotalRow : OpenClaim := { program := "ytcigmmafmogmkaa", sum := "936645427132ba1bafd553f56b0950c2175d2a8296ef8a6df42f3311466e70a3", func := "loop.example/mirrorgrids/laws.FnTotal", spec := "fnTotal", unfollowed := true, recurses := true, plainKeys := false, apart := false }
def FnTotalSaid : Prop := fnTotalRow.holds Try.pinned (OpenSpec.ofChange fnTotalSpec)

/-- ITS FALSE NEIGHBOUR: 'it returns false'. Refute it at one input. -/
def fnTotalWrong : ChangeSpec := { name := "fnTotal", fn := fun _ => fun
  | [d] => { results := [.lit (.bool false)], args := [d] }
  | _ => none }
def FnTotalWrongFalsely : Prop := fnTotalRow.holds Try.pinned (OpenSpec.ofChange fnTotalWrong)

/-- 'laws.FnExactCrossRounds': WHATEVER THE INPUT: true; the input reads as it did. -/
def fnExactCrossRoundsSpec : ChangeSpec := { name := "fnExactCrossRounds", fn := fun _ => fun
  | [d] => { results := [.lit (.bool true)], args := [d] }
  | _ => none }
def fnExactCrossRoundsRow : OpenClaim := { program := "ytcigmmafmogmkaa", sum := "936645427132ba1bafd553f56b0950c2175d2a8296ef8a6df42f3311466e70a3", func := "loop.example/mirrorgrids/laws.FnExactCrossRounds", spec := "fnExactCrossRounds", unfollowed := true, recurses := true, plainKeys := false, apart := false }
def FnExactCrossRoundsSaid : Prop := fnExactCrossRoundsRow.holds Try.pinned (OpenSpec.ofChange fnExactCrossRoundsSpec)

/-- ITS FALSE NEIGHBOUR: 'it returns false'. Refute it at one input. -/
def fnExactCrossRoundsWrong : ChangeSpec := { name := "fnExactCrossRounds", fn := fun _ => fun
  | [d] => { results := [.lit (.bool false)], args := [d] }
  | _ => none }
def FnExactCrossRoundsWrongFalsely : Prop := fnExactCrossRoundsRow.holds Try.pinned (OpenSpec.ofChange fnExactCrossRoundsWrong)

/-- 'laws.FnCrossRounds': WHATEVER THE INPUT: true; the input reads as it did. -/
def fnCrossRoundsSpec : ChangeSpec := { name := "fnCrossRounds", fn := fun _ => fun
  | [d] => { results := [.lit (.bool true)], args := [d] }
  | _ => none }
def fnCrossRoundsRow : OpenClaim := { program := "ytcigmmafmogmkaa", sum := "936645427132ba1bafd553f56b0950c2175d2a8296ef8a6df42f3311466e70a3", func := "loop.example/mirrorgrids/laws.FnCrossRounds", spec := "fnCrossRounds", unfollowed := true, recurses := true, plainKeys := false, apart := false }
def FnCrossRoundsSaid : Prop := fnCrossRoundsRow.holds Try.pinned (OpenSpec.ofChange fnCrossRoundsSpec)

/-- ITS FALSE NEIGHBOUR: 'it returns false'. Refute it at one input. -/
def fnCrossRoundsWrong : ChangeSpec := { name := "fnCrossRounds", fn := fun _ => fun
  | [d] => { results := [.lit (.bool false)], args := [d] }
  | _ => none }
def FnCrossRoundsWrongFalsely : Prop := fnCrossRoundsRow.holds Try.pinned (OpenSpec.ofChange fnCrossRoundsWrong)

/-- 'laws.FnBeams': WHATEVER THE INPUT: true; the input reads as it did. -/
def fnBeamsSpec : ChangeSpec := { name := "fnBeams", fn := fun _ => fun
  | [d] => { results := [.lit (.bool true)], args := [d] }
  | _ => none }
def fnBeamsRow : OpenClaim := { program := "ytcigmmafmogmkaa", sum := "936645427132ba1bafd553f56b0950c2175d2a8296ef8a6df42f3311466e70a3", func := "loop.example/mirrorgrids/laws.FnBeams", spec := "fnBeams", unfollowed := true, recurses := true, plainKeys := false, apart := false }
def FnBeamsSaid : Prop := fnBeamsRow.holds Try.pinned (OpenSpec.ofChange fnBeamsSpec)

/-- ITS FALSE NEIGHBOUR: 'it returns false'. Refute it at one input. -/
def fnBeamsWrong : ChangeSpec := { name := "fnBeams", fn := fun _ => fun
  | [d] => { results := [.lit (.bool false)], args := [d] }
  | _ => none }
def FnBeamsWrongFalsely : Prop := fnBeamsRow.holds Try.pinned (OpenSpec.ofChange fnBeamsWrong)

/- THE SECOND FORM. 'bulk': how many values and letters a reading holds, each counted each time it is reached (what is shared counts as often as it is met; a slice's spare places count too). A statement '..UptoSaid' is the law's where the arguments, and the package variables that the reading takes, are together of bulk at most 1048576: NARROWER than '..Said'. Prove '..Said' where nothing that the law and all that it calls make is longer than what came in: it says more and counts as full. Else prove '..UptoSaid'. A law counts once. -/
mutual
def uptoBulk {H : Type} : DataW H → Nat
  | .lit (.string bytes) => bytes.length + 1
  | .lit _ => 1
  | .nil => 1
  | .ptr d => uptoBulk d + 1
  | .slice elems spare => uptoBulkAll elems + uptoBulkAll spare + 1
  | .agg parts => uptoBulkAll parts + 1
  | .iface _ d => uptoBulk d + 1
  | .map entries => uptoBulkEntries entries + 1
  | .held _ => 1
def uptoBulkAll {H : Type} : List (DataW H) → Nat
  | [] => 0
  | d :: r => uptoBulk d + uptoBulkAll r
def uptoBulkEntries {H : Type} : List (Lit × DataW H) → Nat
  | [] => 0
  | x :: r => uptoBulkEntry x + uptoBulkEntries r
def uptoBulkEntry {H : Type} : Lit × DataW H → Nat
  | (.string bytes, d) => bytes.length + uptoBulk d + 1
  | (_, d) => uptoBulk d + 1
 end
def uptoSmall : (H : Type) → List (DataW H) → Bool := fun _ ds => decide (uptoBulkAll ds ≤ 1048576)
def OpenSpec.upto (s : _root_.Go.ChangeSpec) : _root_.Go.OpenSpec := { _root_.Go.OpenSpec.ofChange s with cond := some uptoSmall }

/-- 'laws.FnExactCrossTotal', WHERE WHAT IT READS IS OF BULK AT MOST 1048576: true; the input reads as it did. -/
def fnExactCrossTotalUptoRow : OpenClaim := { program := "ytcigmmafmogmkaa", sum := "936645427132ba1bafd553f56b0950c2175d2a8296ef8a6df42f3311466e70a3", func := "loop.example/mirrorgrids/laws.FnExactCrossTotal", spec := "fnExactCrossTotal", unfollowed := true, recurses := true, plainKeys := false, apart := false, narrowed := true }
def FnExactCrossTotalUptoSaid : Prop := fnExactCrossTotalUptoRow.holds Try.pinned (OpenSpec.upto fnExactCrossTotalSpec)

/-- 'laws.FnExactCrossBeams', WHERE WHAT IT READS IS OF BULK AT MOST 1048576: true; the input reads as it did. -/
def fnExactCrossBeamsUptoRow : OpenClaim := { program := "ytcigmmafmogmkaa", sum := "936645427132ba1bafd553f56b0950c2175d2a8296ef8a6df42f3311466e70a3", func := "loop.example/mirrorgrids/laws.FnExactCrossBeams", spec := "fnExactCrossBeams", unfollowed := true, recurses := true, plainKeys := false, apart := false, narrowed := true }
def FnExactCrossBeamsUptoSaid : Prop := fnExactCrossBeamsUptoRow.holds Try.pinned (OpenSpec.upto fnExactCrossBeamsSpec)

/-- 'laws.FnTotal', WHERE WHAT IT READS IS OF BULK AT MOST 1048576: true; the input reads as it did. -/
def fnTotalUptoRow : OpenClaim := { program := "ytcigmmafmogmkaa", sum := "936645427132ba1bafd553f56b0950c2175d2a8296ef8a6df42f3311466e70a3", func := "loop.example/mirrorgrids/laws.FnTotal", spec := "fnTotal", unfollowed := true, recurses := true, plainKeys := false, apart := false, narrowed := true }
def FnTotalUptoSaid : Prop := fnTotalUptoRow.holds Try.pinned (OpenSpec.upto fnTotalSpec)

/-- 'laws.FnExactCrossRounds', WHERE WHAT IT READS IS OF BULK AT MOST 1048576: true; the input reads as it did. -/
def fnExactCrossRoundsUptoRow : OpenClaim := { program := "ytcigmmafmogmkaa", sum := "936645427132ba1bafd553f56b0950c2175d2a8296ef8a6df42f3311466e70a3", func := "loop.example/mirrorgrids/laws.FnExactCrossRounds", spec := "fnExactCrossRounds", unfollowed := true, recurses := true, plainKeys := false, apart := false, narrowed := true }
def FnExactCrossRoundsUptoSaid : Prop := fnExactCrossRoundsUptoRow.holds Try.pinned (OpenSpec.upto fnExactCrossRoundsSpec)

/-- 'laws.FnCrossRounds', WHERE WHAT IT READS IS OF BULK AT MOST 1048576: true; the input reads as it did. -/
def fnCrossRoundsUptoRow : OpenClaim := { program := "ytcigmmafmogmkaa", sum := "936645427132ba1bafd553f56b0950c2175d2a8296ef8a6df42f3311466e70a3", func := "loop.example/mirrorgrids/laws.FnCrossRounds", spec := "fnCrossRounds", unfollowed := true, recurses := true, plainKeys := false, apart := false, narrowed := true }
def FnCrossRoundsUptoSaid : Prop := fnCrossRoundsUptoRow.holds Try.pinned (OpenSpec.upto fnCrossRoundsSpec)

/-- 'laws.FnBeams', WHERE WHAT IT READS IS OF BULK AT MOST 1048576: true; the input reads as it did. -/
def fnBeamsUptoRow : OpenClaim := { program := "ytcigmmafmogmkaa", sum := "936645427132ba1bafd553f56b0950c2175d2a8296ef8a6df42f3311466e70a3", func := "loop.example/mirrorgrids/laws.FnBeams", spec := "fnBeams", unfollowed := true, recurses := true, plainKeys := false, apart := false, narrowed := true }
def FnBeamsUptoSaid : Prop := fnBeamsUptoRow.holds Try.pinned (OpenSpec.upto fnBeamsSpec)

end Rows
end Go.Proofs.Ytcigmmafmogmkaa
