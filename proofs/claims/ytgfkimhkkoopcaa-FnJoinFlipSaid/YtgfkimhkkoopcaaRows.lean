/-
  No cell of these rows narrows 'for every input' (looked for: loops, veiled, ifaces, maps, wideKeys, modest, calm, conditions, laid).
  DERIVED. THE GIVEN ROWS OF THIS SEAT. 12 by the template 'for every input the law returns true; each argument reads behind the call as it read before'; 0 by the template 'total and deterministic' (their statements: YtgfkimhkkoopcaaTotals.lean).
  GIVEN WITH THE SEED: the statements are not yours to turn. If you find one false, say at which input.
  Laid BY PROGRAM, IN A SANDBOX (cutbox-rows.mjs): the forced cells as the released guide's own fill.sh prints them over the translation eab588241ddeaacc… (all of the seat's roots in one cut). By AI agents, Wed Nov 11 2026. No macro, syntax, notation, axiom, sorry.
-/
import Derived.Test.YtgfkimhkkoopcaaChecked
import GoSem.Claim
import GoSem.ClaimJoined
import GoSem.ClaimMapViews
import Derived.JoinedTies
import Derived.KernelRfl
namespace Go.Proofs.Ytgfkimhkkoopcaa
/- THE CELL 'sum', in the pinned program and in every row, IS THE sha256 OF THE DUMP (.gsa) THAT YtgfkimhkkoopcaaProg.lean LOADS. Nothing in Lean hashes anything: it is a label: what it is worth is what the hold of that sum in a sandbox is worth. -/
noncomputable def Try.pinned : Pinned := { name := "ytgfkimhkkoopcaa", sum := "eab588241ddeaacc1d43130fac17e2a6aa7e6a8bbf1ab707b6a88c3e175bd31b", checked := Try.checked }
namespace Rows
def none {H : Type} : Left H := { results := [], args := [] }

/-- 'laws.FnExactMakePlain': WHATEVER THE INPUT: true; the input reads as it did. -/
def fnExactMakePlainSpec : ChangeSpec := { name := "fnExactMakePlain", fn := fun _ => fun
  | [d] => { results := [.lit (.bool true)], args := [d] }
  | _ => none }
def fnExactMakePlainRow : OpenClaim := { program := "ytgfkimhkkoopcaa", sum := "eab588241ddeaacc1d43130fac17e2a6aa7e6a8bbf1ab707b6a88c3e175bd31b", func := "loop.example/mirrorgrids/laws.FnExactMakePlain", spec := "fnExactMakePlain", plainKeys := false, apart := false }
def FnExactMakePlainSaid : Prop := fnExactMakePlainRow.holds Try.pinned (OpenSpec.ofChange fnExactMakePlainSpec)

/-- ITS FALSE NEIGHBOUR: 'it returns false'. Refute it at one input. -/
def fnExactMakePlainWrong : ChangeSpec := { name := "fnExactMakePlain", fn := fun _ => fun
  | [d] => { results := [.lit (.bool false)], args := [d] }
  | _ => none }
def FnExactMakePlainWrongFalsely : Prop := fnExactMakePlainRow.holds Try.pinned (OpenSpec.ofChange fnExactMakePlainWrong)

/-- 'laws.FnExactCrossIn': WHATEVER THE INPUT: true; the input reads as it did. -/
def fnExactCrossInSpec : ChangeSpec := { name := "fnExactCrossIn", fn := fun _ => fun
  | [d] => { results := [.lit (.bool true)], args := [d] }
  | _ => none }
def fnExactCrossInRow : OpenClaim := { program := "ytgfkimhkkoopcaa", sum := "eab588241ddeaacc1d43130fac17e2a6aa7e6a8bbf1ab707b6a88c3e175bd31b", func := "loop.example/mirrorgrids/laws.FnExactCrossIn", spec := "fnExactCrossIn", plainKeys := false, apart := false }
def FnExactCrossInSaid : Prop := fnExactCrossInRow.holds Try.pinned (OpenSpec.ofChange fnExactCrossInSpec)

/-- ITS FALSE NEIGHBOUR: 'it returns false'. Refute it at one input. -/
def fnExactCrossInWrong : ChangeSpec := { name := "fnExactCrossIn", fn := fun _ => fun
  | [d] => { results := [.lit (.bool false)], args := [d] }
  | _ => none }
def FnExactCrossInWrongFalsely : Prop := fnExactCrossInRow.holds Try.pinned (OpenSpec.ofChange fnExactCrossInWrong)

/-- 'laws.FnPlain': WHATEVER THE INPUT: true; the input reads as it did. -/
def fnPlainSpec : ChangeSpec := { name := "fnPlain", fn := fun _ => fun
  | [d] => { results := [.lit (.bool true)], args := [d] }
  | _ => none }
def fnPlainRow : OpenClaim := { program := "ytgfkimhkkoopcaa", sum := "eab588241ddeaacc1d43130fac17e2a6aa7e6a8bbf1ab707b6a88c3e175bd31b", func := "loop.example/mirrorgrids/laws.FnPlain", spec := "fnPlain", plainKeys := false, apart := false }
def FnPlainSaid : Prop := fnPlainRow.holds Try.pinned (OpenSpec.ofChange fnPlainSpec)

/-- ITS FALSE NEIGHBOUR: 'it returns false'. Refute it at one input. -/
def fnPlainWrong : ChangeSpec := { name := "fnPlain", fn := fun _ => fun
  | [d] => { results := [.lit (.bool false)], args := [d] }
  | _ => none }
def FnPlainWrongFalsely : Prop := fnPlainRow.holds Try.pinned (OpenSpec.ofChange fnPlainWrong)

/-- 'laws.FnExactCrossChords': WHATEVER THE INPUT: true; the input reads as it did. -/
def fnExactCrossChordsSpec : ChangeSpec := { name := "fnExactCrossChords", fn := fun _ => fun
  | [d] => { results := [.lit (.bool true)], args := [d] }
  | _ => none }
def fnExactCrossChordsRow : OpenClaim := { program := "ytgfkimhkkoopcaa", sum := "eab588241ddeaacc1d43130fac17e2a6aa7e6a8bbf1ab707b6a88c3e175bd31b", func := "loop.example/mirrorgrids/laws.FnExactCrossChords", spec := "fnExactCrossChords", plainKeys := false, apart := false }
def FnExactCrossChordsSaid : Prop := fnExactCrossChordsRow.holds Try.pinned (OpenSpec.ofChange fnExactCrossChordsSpec)

/-- ITS FALSE NEIGHBOUR: 'it returns false'. Refute it at one input. -/
def fnExactCrossChordsWrong : ChangeSpec := { name := "fnExactCrossChords", fn := fun _ => fun
  | [d] => { results := [.lit (.bool false)], args := [d] }
  | _ => none }
def FnExactCrossChordsWrongFalsely : Prop := fnExactCrossChordsRow.holds Try.pinned (OpenSpec.ofChange fnExactCrossChordsWrong)

/-- 'laws.FnExactCrossTurn': WHATEVER THE INPUT: true; the input reads as it did. -/
def fnExactCrossTurnSpec : ChangeSpec := { name := "fnExactCrossTurn", fn := fun _ => fun
  | [d1, d2] => { results := [.lit (.bool true)], args := [d1, d2] }
  | _ => none }
def fnExactCrossTurnRow : OpenClaim := { program := "ytgfkimhkkoopcaa", sum := "eab588241ddeaacc1d43130fac17e2a6aa7e6a8bbf1ab707b6a88c3e175bd31b", func := "loop.example/mirrorgrids/laws.FnExactCrossTurn", spec := "fnExactCrossTurn", plainKeys := false, apart := false }
def FnExactCrossTurnSaid : Prop := fnExactCrossTurnRow.holds Try.pinned (OpenSpec.ofChange fnExactCrossTurnSpec)

/-- ITS FALSE NEIGHBOUR: 'it returns false'. Refute it at one input. -/
def fnExactCrossTurnWrong : ChangeSpec := { name := "fnExactCrossTurn", fn := fun _ => fun
  | [d1, d2] => { results := [.lit (.bool false)], args := [d1, d2] }
  | _ => none }
def FnExactCrossTurnWrongFalsely : Prop := fnExactCrossTurnRow.holds Try.pinned (OpenSpec.ofChange fnExactCrossTurnWrong)

/-- 'laws.FnExactJoinUnit': WHATEVER THE INPUT: true; the input reads as it did. -/
def fnExactJoinUnitSpec : ChangeSpec := { name := "fnExactJoinUnit", fn := fun _ => fun
  | [d1, d2] => { results := [.lit (.bool true)], args := [d1, d2] }
  | _ => none }
def fnExactJoinUnitRow : OpenClaim := { program := "ytgfkimhkkoopcaa", sum := "eab588241ddeaacc1d43130fac17e2a6aa7e6a8bbf1ab707b6a88c3e175bd31b", func := "loop.example/mirrorgrids/laws.FnExactJoinUnit", spec := "fnExactJoinUnit", plainKeys := false, apart := false }
def FnExactJoinUnitSaid : Prop := fnExactJoinUnitRow.holds Try.pinned (OpenSpec.ofChange fnExactJoinUnitSpec)

/-- ITS FALSE NEIGHBOUR: 'it returns false'. Refute it at one input. -/
def fnExactJoinUnitWrong : ChangeSpec := { name := "fnExactJoinUnit", fn := fun _ => fun
  | [d1, d2] => { results := [.lit (.bool false)], args := [d1, d2] }
  | _ => none }
def FnExactJoinUnitWrongFalsely : Prop := fnExactJoinUnitRow.holds Try.pinned (OpenSpec.ofChange fnExactJoinUnitWrong)

/-- 'laws.FnCrossTurn': WHATEVER THE INPUT: true; the input reads as it did. -/
def fnCrossTurnSpec : ChangeSpec := { name := "fnCrossTurn", fn := fun _ => fun
  | [d] => { results := [.lit (.bool true)], args := [d] }
  | _ => none }
def fnCrossTurnRow : OpenClaim := { program := "ytgfkimhkkoopcaa", sum := "eab588241ddeaacc1d43130fac17e2a6aa7e6a8bbf1ab707b6a88c3e175bd31b", func := "loop.example/mirrorgrids/laws.FnCrossTurn", spec := "fnCrossTurn", plainKeys := false, apart := false }
def FnCrossTurnSaid : Prop := fnCrossTurnRow.holds Try.pinned (OpenSpec.ofChange fnCrossTurnSpec)

/-- ITS FALSE NEIGHBOUR: 'it returns false'. Refute it at one input. -/
def fnCrossTurnWrong : ChangeSpec := { name := "fnCrossTurn", fn := fun _ => fun
  | [d] => { results := [.lit (.bool false)], args := [d] }
  | _ => none }
def FnCrossTurnWrongFalsely : Prop := fnCrossTurnRow.holds Try.pinned (OpenSpec.ofChange fnCrossTurnWrong)

/-- 'laws.FnExactJoinTurn': WHATEVER THE INPUT: true; the input reads as it did. -/
def fnExactJoinTurnSpec : ChangeSpec := { name := "fnExactJoinTurn", fn := fun _ => fun
  | [d1, d2, d3] => { results := [.lit (.bool true)], args := [d1, d2, d3] }
  | _ => none }
def fnExactJoinTurnRow : OpenClaim := { program := "ytgfkimhkkoopcaa", sum := "eab588241ddeaacc1d43130fac17e2a6aa7e6a8bbf1ab707b6a88c3e175bd31b", func := "loop.example/mirrorgrids/laws.FnExactJoinTurn", spec := "fnExactJoinTurn", plainKeys := false, apart := false }
def FnExactJoinTurnSaid : Prop := fnExactJoinTurnRow.holds Try.pinned (OpenSpec.ofChange fnExactJoinTurnSpec)

/-- ITS FALSE NEIGHBOUR: 'it returns false'. Refute it at one input. -/
def fnExactJoinTurnWrong : ChangeSpec := { name := "fnExactJoinTurn", fn := fun _ => fun
  | [d1, d2, d3] => { results := [.lit (.bool false)], args := [d1, d2, d3] }
  | _ => none }
def FnExactJoinTurnWrongFalsely : Prop := fnExactJoinTurnRow.holds Try.pinned (OpenSpec.ofChange fnExactJoinTurnWrong)

/-- 'laws.FnJoinTurn': WHATEVER THE INPUT: true; the input reads as it did. -/
def fnJoinTurnSpec : ChangeSpec := { name := "fnJoinTurn", fn := fun _ => fun
  | [d] => { results := [.lit (.bool true)], args := [d] }
  | _ => none }
def fnJoinTurnRow : OpenClaim := { program := "ytgfkimhkkoopcaa", sum := "eab588241ddeaacc1d43130fac17e2a6aa7e6a8bbf1ab707b6a88c3e175bd31b", func := "loop.example/mirrorgrids/laws.FnJoinTurn", spec := "fnJoinTurn", plainKeys := false, apart := false }
def FnJoinTurnSaid : Prop := fnJoinTurnRow.holds Try.pinned (OpenSpec.ofChange fnJoinTurnSpec)

/-- ITS FALSE NEIGHBOUR: 'it returns false'. Refute it at one input. -/
def fnJoinTurnWrong : ChangeSpec := { name := "fnJoinTurn", fn := fun _ => fun
  | [d] => { results := [.lit (.bool false)], args := [d] }
  | _ => none }
def FnJoinTurnWrongFalsely : Prop := fnJoinTurnRow.holds Try.pinned (OpenSpec.ofChange fnJoinTurnWrong)

/-- 'laws.FnExactJoinFlip': WHATEVER THE INPUT: true; the input reads as it did. -/
def fnExactJoinFlipSpec : ChangeSpec := { name := "fnExactJoinFlip", fn := fun _ => fun
  | [d1, d2, d3] => { results := [.lit (.bool true)], args := [d1, d2, d3] }
  | _ => none }
def fnExactJoinFlipRow : OpenClaim := { program := "ytgfkimhkkoopcaa", sum := "eab588241ddeaacc1d43130fac17e2a6aa7e6a8bbf1ab707b6a88c3e175bd31b", func := "loop.example/mirrorgrids/laws.FnExactJoinFlip", spec := "fnExactJoinFlip", unfollowed := true, recurses := true, plainKeys := false, apart := false }
def FnExactJoinFlipSaid : Prop := fnExactJoinFlipRow.holds Try.pinned (OpenSpec.ofChange fnExactJoinFlipSpec)

/-- ITS FALSE NEIGHBOUR: 'it returns false'. Refute it at one input. -/
def fnExactJoinFlipWrong : ChangeSpec := { name := "fnExactJoinFlip", fn := fun _ => fun
  | [d1, d2, d3] => { results := [.lit (.bool false)], args := [d1, d2, d3] }
  | _ => none }
def FnExactJoinFlipWrongFalsely : Prop := fnExactJoinFlipRow.holds Try.pinned (OpenSpec.ofChange fnExactJoinFlipWrong)

/-- 'laws.FnExactJoinClose': WHATEVER THE INPUT: true; the input reads as it did. -/
def fnExactJoinCloseSpec : ChangeSpec := { name := "fnExactJoinClose", fn := fun _ => fun
  | [d1, d2, d3] => { results := [.lit (.bool true)], args := [d1, d2, d3] }
  | _ => none }
def fnExactJoinCloseRow : OpenClaim := { program := "ytgfkimhkkoopcaa", sum := "eab588241ddeaacc1d43130fac17e2a6aa7e6a8bbf1ab707b6a88c3e175bd31b", func := "loop.example/mirrorgrids/laws.FnExactJoinClose", spec := "fnExactJoinClose", plainKeys := false, apart := false }
def FnExactJoinCloseSaid : Prop := fnExactJoinCloseRow.holds Try.pinned (OpenSpec.ofChange fnExactJoinCloseSpec)

/-- ITS FALSE NEIGHBOUR: 'it returns false'. Refute it at one input. -/
def fnExactJoinCloseWrong : ChangeSpec := { name := "fnExactJoinClose", fn := fun _ => fun
  | [d1, d2, d3] => { results := [.lit (.bool false)], args := [d1, d2, d3] }
  | _ => none }
def FnExactJoinCloseWrongFalsely : Prop := fnExactJoinCloseRow.holds Try.pinned (OpenSpec.ofChange fnExactJoinCloseWrong)

/-- 'laws.FnJoinFlip': WHATEVER THE INPUT: true; the input reads as it did. -/
def fnJoinFlipSpec : ChangeSpec := { name := "fnJoinFlip", fn := fun _ => fun
  | [d] => { results := [.lit (.bool true)], args := [d] }
  | _ => none }
def fnJoinFlipRow : OpenClaim := { program := "ytgfkimhkkoopcaa", sum := "eab588241ddeaacc1d43130fac17e2a6aa7e6a8bbf1ab707b6a88c3e175bd31b", func := "loop.example/mirrorgrids/laws.FnJoinFlip", spec := "fnJoinFlip", unfollowed := true, recurses := true, plainKeys := false, apart := false }
def FnJoinFlipSaid : Prop := fnJoinFlipRow.holds Try.pinned (OpenSpec.ofChange fnJoinFlipSpec)

/-- ITS FALSE NEIGHBOUR: 'it returns false'. Refute it at one input. -/
def fnJoinFlipWrong : ChangeSpec := { name := "fnJoinFlip", fn := fun _ => fun
  | [d] => { results := [.lit (.bool false)], args := [d] }
  | _ => none }
def FnJoinFlipWrongFalsely : Prop := fnJoinFlipRow.holds Try.pinned (OpenSpec.ofChange fnJoinFlipWrong)

/- THE SECOND FORM. 'bulk': how many values and letters a reading holds, each counted each time it is reached (what is shared counts as often as it is met; a slice's spare places count too). A statement '..UptoSaid' is the law's where the arguments, and the package variables that the reading takes, are together of bulk at most 1048576: NARROWER than '..Said'. Prove '..Said' where nothing that the law and all that it calls make is longer than what came in: it says more and counts as full. Else prove '..UptoSaid'. A law counts once. -/
mutual
def uptoBulk {H : Type} : DataW H → Nat
  | .lit (.string bytes) => bytes.length + 1
  | .lit _ => 1
  | .nil => 1
  | .ptr d => uptoBulk d + 1
  | .slice elems spare => uptoBulkAll elems + uptoBulkAll spare + 1
  | .agg parts => uptoBulkAll parts + 1
  | .iface _ d => uptoBulk d + 1
  | .map entries => uptoBulkEntries entries + 1
  | .held _ => 1
def uptoBulkAll {H : Type} : List (DataW H) → Nat
  | [] => 0
  | d :: r => uptoBulk d + uptoBulkAll r
def uptoBulkEntries {H : Type} : List (Lit × DataW H) → Nat
  | [] => 0
  | x :: r => uptoBulkEntry x + uptoBulkEntries r
def uptoBulkEntry {H : Type} : Lit × DataW H → Nat
  | (.string bytes, d) => bytes.length + uptoBulk d + 1
  | (_, d) => uptoBulk d + 1
 end
def uptoSmall : (H : Type) → List (DataW H) → Bool := fun _ ds => decide (uptoBulkAll ds ≤ 1048576)
def OpenSpec.upto (s : _root_.Go.ChangeSpec) : _root_.Go.OpenSpec := { _root_.Go.OpenSpec.ofChange s with cond := some uptoSmall }

/-- 'laws.FnExactMakePlain', WHERE WHAT IT READS IS OF BULK AT MOST 1048576: true; the input reads as it did. -/
def fnExactMakePlainUptoRow : OpenClaim := { program := "ytgfkimhkkoopcaa", sum := "eab588241ddeaacc1d43130fac17e2a6aa7e6a8bbf1ab707b6a88c3e175bd31b", func := "loop.example/mirrorgrids/laws.FnExactMakePlain", spec := "fnExactMakePlain", plainKeys := false, apart := false, narrowed := true }
def FnExactMakePlainUptoSaid : Prop := fnExactMakePlainUptoRow.holds Try.pinned (OpenSpec.upto fnExactMakePlainSpec)

/-- 'laws.FnExactCrossIn', WHERE WHAT IT READS IS OF BULK AT MOST 1048576: true; the input reads as it did. -/
def fnExactCrossInUptoRow : OpenClaim := { program := "ytgfkimhkkoopcaa", sum := "eab588241ddeaacc1d43130fac17e2a6aa7e6a8bbf1ab707b6a88c3e175bd31b", func := "loop.example/mirrorgrids/laws.FnExactCrossIn", spec := "fnExactCrossIn", plainKeys := false, apart := false, narrowed := true }
def FnExactCrossInUptoSaid : Prop := fnExactCrossInUptoRow.holds Try.pinned (OpenSpec.upto fnExactCrossInSpec)

/-- 'laws.FnPlain', WHERE WHAT IT READS IS OF BULK AT MOST 1048576: true; the input reads as it did. -/
def fnPlainUptoRow : OpenClaim := { program := "ytgfkimhkkoopcaa", sum := "eab588241ddeaacc1d43130fac17e2a6aa7e6a8bbf1ab707b6a88c3e175bd31b", func := "loop.example/mirrorgrids/laws.FnPlain", spec := "fnPlain", plainKeys := false, apart := false, narrowed := true }
def FnPlainUptoSaid : Prop := fnPlainUptoRow.holds Try.pinned (OpenSpec.upto fnPlainSpec)

/-- 'laws.FnExactCrossChords', WHERE WHAT IT READS IS OF BULK AT MOST 1048576: true; the input reads as it did. -/
def fnExactCrossChordsUptoRow : OpenClaim := { program := "ytgfkimhkkoopcaa", sum := "eab588241ddeaacc1d43130fac17e2a6aa7e6a8bbf1ab707b6a88c3e175bd31b", func := "loop.example/mirrorgrids/laws.FnExactCrossChords", spec := "fnExactCrossChords", plainKeys := false, apart := false, narrowed := true }
def FnExactCrossChordsUptoSaid : Prop := fnExactCrossChordsUptoRow.holds Try.pinned (OpenSpec.upto fnExactCrossChordsSpec)

/-- 'laws.FnExactCrossTurn', WHERE WHAT IT READS IS OF BULK AT MOST 1048576: true; the input reads as it did. -/
def fnExactCrossTurnUptoRow : OpenClaim := { program := "ytgfkimhkkoopcaa", sum := "eab588241ddeaacc1d43130fac17e2a6aa7e6a8bbf1ab707b6a88c3e175bd31b", func := "loop.example/mirrorgrids/laws.FnExactCrossTurn", spec := "fnExactCrossTurn", plainKeys := false, apart := false, narrowed := true }
def FnExactCrossTurnUptoSaid : Prop := fnExactCrossTurnUptoRow.holds Try.pinned (OpenSpec.upto fnExactCrossTurnSpec)

/-- 'laws.FnExactJoinUnit', WHERE WHAT IT READS IS OF BULK AT MOST 1048576: true; the input reads as it did. -/
def fnExactJoinUnitUptoRow : OpenClaim := { program := "ytgfkimhkkoopcaa", sum := "eab588241ddeaacc1d43130fac17e2a6aa7e6a8bbf1ab707b6a88c3e175bd31b", func := "loop.example/mirrorgrids/laws.FnExactJoinUnit", spec := "fnExactJoinUnit", plainKeys := false, apart := false, narrowed := true }
def FnExactJoinUnitUptoSaid : Prop := fnExactJoinUnitUptoRow.holds Try.pinned (OpenSpec.upto fnExactJoinUnitSpec)

/-- 'laws.FnCrossTurn', WHERE WHAT IT READS IS OF BULK AT MOST 1048576: true; the input reads as it did. -/
def fnCrossTurnUptoRow : OpenClaim := { program := "ytgfkimhkkoopcaa", sum := "eab588241ddeaacc1d43130fac17e2a6aa7e6a8bbf1ab707b6a88c3e175bd31b", func := "loop.example/mirrorgrids/laws.FnCrossTurn", spec := "fnCrossTurn", plainKeys := false, apart := false, narrowed := true }
def FnCrossTurnUptoSaid : Prop := fnCrossTurnUptoRow.holds Try.pinned (OpenSpec.upto fnCrossTurnSpec)

/-- 'laws.FnExactJoinTurn', WHERE WHAT IT READS IS OF BULK AT MOST 1048576: true; the input reads as it did. -/
def fnExactJoinTurnUptoRow : OpenClaim := { program := "ytgfkimhkkoopcaa", sum := "eab588241ddeaacc1d43130fac17e2a6aa7e6a8bbf1ab707b6a88c3e175bd31b", func := "loop.example/mirrorgrids/laws.FnExactJoinTurn", spec := "fnExactJoinTurn", plainKeys := false, apart := false, narrowed := true }
def FnExactJoinTurnUptoSaid : Prop := fnExactJoinTurnUptoRow.holds Try.pinned (OpenSpec.upto fnExactJoinTurnSpec)

/-- 'laws.FnJoinTurn', WHERE WHAT IT READS IS OF BULK AT MOST 1048576: true; the input reads as it did. -/
def fnJoinTurnUptoRow : OpenClaim := { program := "ytgfkimhkkoopcaa", sum := "eab588241ddeaacc1d43130fac17e2a6aa7e6a8bbf1ab707b6a88c3e175bd31b", func := "loop.example/mirrorgrids/laws.FnJoinTurn", spec := "fnJoinTurn", plainKeys := false, apart := false, narrowed := true }
def FnJoinTurnUptoSaid : Prop := fnJoinTurnUptoRow.holds Try.pinned (OpenSpec.upto fnJoinTurnSpec)

/-- 'laws.FnExactJoinFlip', WHERE WHAT IT READS IS OF BULK AT MOST 1048576: true; the input reads as it did. -/
def fnExactJoinFlipUptoRow : OpenClaim := { program := "ytgfkimhkkoopcaa", sum := "eab588241ddeaacc1d43130fac17e2a6aa7e6a8bbf1ab707b6a88c3e175bd31b", func := "loop.example/mirrorgrids/laws.FnExactJoinFlip", spec := "fnExactJoinFlip", unfollowed := true, recurses := true, plainKeys := false, apart := false, narrowed := true }
def FnExactJoinFlipUptoSaid : Prop := fnExactJoinFlipUptoRow.holds Try.pinned (OpenSpec.upto fnExactJoinFlipSpec)

/-- 'laws.FnExactJoinClose', WHERE WHAT IT READS IS OF BULK AT MOST 1048576: true; the input reads as it did. -/
def fnExactJoinCloseUptoRow : OpenClaim := { program := "ytgfkimhkkoopcaa", sum := "eab588241ddeaacc1d43130fac17e2a6aa7e6a8bbf1ab707b6a88c3e175bd31b", func := "loop.example/mirrorgrids/laws.FnExactJoinClose", spec := "fnExactJoinClose", plainKeys := false, apart := false, narrowed := true }
def FnExactJoinCloseUptoSaid : Prop := fnExactJoinCloseUptoRow.holds Try.pinned (OpenSpec.upto fnExactJoinCloseSpec)

/-- 'laws.FnJoinFlip', WHERE WHAT IT READS IS OF BULK AT MOST 1048576: true; the input reads as it did. -/
def fnJoinFlipUptoRow : OpenClaim := { program := "ytgfkimhkkoopcaa", sum := "eab588241ddeaacc1d43130fac17e2a6aa7e6a8bbf1ab707b6a88c3e175bd31b", func := "loop.example/mirrorgrids/laws.FnJoinFlip", spec := "fnJoinFlip", unfollowed := true, recurses := true, plainKeys := false, apart := false, narrowed := true }
def FnJoinFlipUptoSaid : Prop := fnJoinFlipUptoRow.holds Try.pinned (OpenSpec.upto fnJoinFlipSpec)

end Rows
end Go.Proofs.Ytgfkimhkkoopcaa
