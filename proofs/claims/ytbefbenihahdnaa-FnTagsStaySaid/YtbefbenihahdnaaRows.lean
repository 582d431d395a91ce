/-
  No cell of these rows narrows 'for every input' (looked for: loops, veiled, ifaces, maps, wideKeys, modest, calm, conditions, laid).
  DERIVED. THE GIVEN ROWS OF THIS SEAT. 29 by the template 'for every input the law returns true; each argument reads behind the call as it read before'; 0 by the template 'total and deterministic' (their statements: YtbefbenihahdnaaTotals.lean).
  GIVEN WITH THE SEED: the statements are not yours to turn. If you find one false, say at which input.
  Laid BY PROGRAM, IN A SANDBOX (cutbox-rows.mjs): the forced cells as the released guide's own fill.sh prints them over the translation 0799a63bcf9c3733… (all of the seat's roots in one cut). By AI agents, Wed Nov 11 2026. No macro, syntax, notation, axiom, sorry.
-/
import Derived.Test.YtbefbenihahdnaaChecked
import GoSem.Claim
import GoSem.ClaimJoined
import GoSem.ClaimMapViews
import Derived.JoinedTies
import Derived.KernelRfl
namespace Go.Proofs.Ytbefbenihahdnaa
/- THE CELL 'sum', in the pinned program and in every row, IS THE sha256 OF THE DUMP (.gsa) THAT YtbefbenihahdnaaProg.lean LOADS. Nothing in Lean hashes anything: it is a label: what it is worth is what the hold of that sum in a sandbox is worth. -/
noncomputable def Try.pinned : Pinned := { name := "ytbefbenihahdnaa", sum := "0799a63bcf9c373327c9defb812ce56816ab9e12eef430f5a24a20daae54e6ef", checked := Try.checked }
namespace Rows
def none {H : Type} : Left H := { results := [], args := [] }

/-- 'laws.FnExactSpotOf': WHATEVER THE INPUT: true; the input reads as it did. -/
def fnExactSpotOfSpec : ChangeSpec := { name := "fnExactSpotOf", fn := fun _ => fun
  | [d1, d2] => { results := [.lit (.bool true)], args := [d1, d2] }
  | _ => none }
def fnExactSpotOfRow : OpenClaim := { program := "ytbefbenihahdnaa", sum := "0799a63bcf9c373327c9defb812ce56816ab9e12eef430f5a24a20daae54e6ef", func := "loop.example/proofarchive/laws.FnExactSpotOf", spec := "fnExactSpotOf", apart := false }
def FnExactSpotOfSaid : Prop := fnExactSpotOfRow.holds Try.pinned (OpenSpec.ofChange fnExactSpotOfSpec)

/-- ITS FALSE NEIGHBOUR: 'it returns false'. Refute it at one input. -/
def fnExactSpotOfWrong : ChangeSpec := { name := "fnExactSpotOf", fn := fun _ => fun
  | [d1, d2] => { results := [.lit (.bool false)], args := [d1, d2] }
  | _ => none }
def FnExactSpotOfWrongFalsely : Prop := fnExactSpotOfRow.holds Try.pinned (OpenSpec.ofChange fnExactSpotOfWrong)

/-- 'laws.FnExactFoldName': WHATEVER THE INPUT: true; the input reads as it did. -/
def fnExactFoldNameSpec : ChangeSpec := { name := "fnExactFoldName", fn := fun _ => fun
  | [d] => { results := [.lit (.bool true)], args := [d] }
  | _ => none }
def fnExactFoldNameRow : OpenClaim := { program := "ytbefbenihahdnaa", sum := "0799a63bcf9c373327c9defb812ce56816ab9e12eef430f5a24a20daae54e6ef", func := "loop.example/proofarchive/laws.FnExactFoldName", spec := "fnExactFoldName", apart := false }
def FnExactFoldNameSaid : Prop := fnExactFoldNameRow.holds Try.pinned (OpenSpec.ofChange fnExactFoldNameSpec)

/-- ITS FALSE NEIGHBOUR: 'it returns false'. Refute it at one input. -/
def fnExactFoldNameWrong : ChangeSpec := { name := "fnExactFoldName", fn := fun _ => fun
  | [d] => { results := [.lit (.bool false)], args := [d] }
  | _ => none }
def FnExactFoldNameWrongFalsely : Prop := fnExactFoldNameRow.holds Try.pinned (OpenSpec.ofChange fnExactFoldNameWrong)

/-- 'laws.FnExactPieceRight': WHATEVER THE INPUT: true; the input reads as it did. -/
def fnExactPieceRightSpec : ChangeSpec := { name := "fnExactPieceRight", fn := fun _ => fun
  | [d] => { results := [.lit (.bool true)], args := [d] }
  | _ => none }
def fnExactPieceRightRow : OpenClaim := { program := "ytbefbenihahdnaa", sum := "0799a63bcf9c373327c9defb812ce56816ab9e12eef430f5a24a20daae54e6ef", func := "loop.example/proofarchive/laws.FnExactPieceRight", spec := "fnExactPieceRight", apart := false }
def FnExactPieceRightSaid : Prop := fnExactPieceRightRow.holds Try.pinned (OpenSpec.ofChange fnExactPieceRightSpec)

/-- ITS FALSE NEIGHBOUR: 'it returns false'. Refute it at one input. -/
def fnExactPieceRightWrong : ChangeSpec := { name := "fnExactPieceRight", fn := fun _ => fun
  | [d] => { results := [.lit (.bool false)], args := [d] }
  | _ => none }
def FnExactPieceRightWrongFalsely : Prop := fnExactPieceRightRow.holds Try.pinned (OpenSpec.ofChange fnExactPieceRightWrong)

/-- 'laws.FnFoldName': WHATEVER THE INPUT: true; the input reads as it did. -/
def fnFoldNameSpec : ChangeSpec := { name := "fnFoldName", fn := fun _ => fun
  | [d] => { results := [.lit (.bool true)], args := [d] }
  | _ => none }
def fnFoldNameRow : OpenClaim := { program := "ytbefbenihahdnaa", sum := "0799a63bcf9c373327c9defb812ce56816ab9e12eef430f5a24a20daae54e6ef", func := "loop.example/proofarchive/laws.FnFoldName", spec := "fnFoldName", apart := false }
def FnFoldNameSaid : Prop := fnFoldNameRow.holds Try.pinned (OpenSpec.ofChange fnFoldNameSpec)

/-- ITS FALSE NEIGHBOUR: 'it returns false'. Refute it at one input. -/
def fnFoldNameWrong : ChangeSpec := { name := "fnFoldName", fn := fun _ => fun
  | [d] => { results := [.lit (.bool false)], args := [d] }
  | _ => none }
def FnFoldNameWrongFalsely : Prop := fnFoldNameRow.holds Try.pinned (OpenSpec.ofChange fnFoldNameWrong)

/-- 'laws.FnSpotOf': WHATEVER THE INPUT: true; the input reads as it did. -/
def fnSpotOfSpec : ChangeSpec := { name := "fnSpotOf", fn := fun _ => fun
  | [d] => { results := [.lit (.bool true)], args := [d] }
  | _ => none }
def fnSpotOfRow : OpenClaim := { program := "ytbefbenihahdnaa", sum := "0799a63bcf9c373327c9defb812ce56816ab9e12eef430f5a24a20daae54e6ef", func := "loop.example/proofarchive/laws.FnSpotOf", spec := "fnSpotOf", apart := false }
def FnSpotOfSaid : Prop := fnSpotOfRow.holds Try.pinned (OpenSpec.ofChange fnSpotOfSpec)

/-- ITS FALSE NEIGHBOUR: 'it returns false'. Refute it at one input. -/
def fnSpotOfWrong : ChangeSpec := { name := "fnSpotOf", fn := fun _ => fun
  | [d] => { results := [.lit (.bool false)], args := [d] }
  | _ => none }
def FnSpotOfWrongFalsely : Prop := fnSpotOfRow.holds Try.pinned (OpenSpec.ofChange fnSpotOfWrong)

/-- 'laws.FnFilterJoin': WHATEVER THE INPUT: true; the input reads as it did. -/
def fnFilterJoinSpec : ChangeSpec := { name := "fnFilterJoin", fn := fun _ => fun
  | [d] => { results := [.lit (.bool true)], args := [d] }
  | _ => none }
def fnFilterJoinRow : OpenClaim := { program := "ytbefbenihahdnaa", sum := "0799a63bcf9c373327c9defb812ce56816ab9e12eef430f5a24a20daae54e6ef", func := "loop.example/proofarchive/laws.FnFilterJoin", spec := "fnFilterJoin", apart := false }
def FnFilterJoinSaid : Prop := fnFilterJoinRow.holds Try.pinned (OpenSpec.ofChange fnFilterJoinSpec)

/-- ITS FALSE NEIGHBOUR: 'it returns false'. Refute it at one input. -/
def fnFilterJoinWrong : ChangeSpec := { name := "fnFilterJoin", fn := fun _ => fun
  | [d] => { results := [.lit (.bool false)], args := [d] }
  | _ => none }
def FnFilterJoinWrongFalsely : Prop := fnFilterJoinRow.holds Try.pinned (OpenSpec.ofChange fnFilterJoinWrong)

/-- 'laws.FnPieceRight': WHATEVER THE INPUT: true; the input reads as it did. -/
def fnPieceRightSpec : ChangeSpec := { name := "fnPieceRight", fn := fun _ => fun
  | [d] => { results := [.lit (.bool true)], args := [d] }
  | _ => none }
def fnPieceRightRow : OpenClaim := { program := "ytbefbenihahdnaa", sum := "0799a63bcf9c373327c9defb812ce56816ab9e12eef430f5a24a20daae54e6ef", func := "loop.example/proofarchive/laws.FnPieceRight", spec := "fnPieceRight", apart := false }
def FnPieceRightSaid : Prop := fnPieceRightRow.holds Try.pinned (OpenSpec.ofChange fnPieceRightSpec)

/-- ITS FALSE NEIGHBOUR: 'it returns false'. Refute it at one input. -/
def fnPieceRightWrong : ChangeSpec := { name := "fnPieceRight", fn := fun _ => fun
  | [d] => { results := [.lit (.bool false)], args := [d] }
  | _ => none }
def FnPieceRightWrongFalsely : Prop := fnPieceRightRow.holds Try.pinned (OpenSpec.ofChange fnPieceRightWrong)

/-- 'laws.FnFilterHas': WHATEVER THE INPUT: true; the input reads as it did. -/
def fnFilterHasSpec : ChangeSpec := { name := "fnFilterHas", fn := fun _ => fun
  | [d] => { results := [.lit (.bool true)], args := [d] }
  | _ => none }
def fnFilterHasRow : OpenClaim := { program := "ytbefbenihahdnaa", sum := "0799a63bcf9c373327c9defb812ce56816ab9e12eef430f5a24a20daae54e6ef", func := "loop.example/proofarchive/laws.FnFilterHas", spec := "fnFilterHas", apart := false }
def FnFilterHasSaid : Prop := fnFilterHasRow.holds Try.pinned (OpenSpec.ofChange fnFilterHasSpec)

/-- ITS FALSE NEIGHBOUR: 'it returns false'. Refute it at one input. -/
def fnFilterHasWrong : ChangeSpec := { name := "fnFilterHas", fn := fun _ => fun
  | [d] => { results := [.lit (.bool false)], args := [d] }
  | _ => none }
def FnFilterHasWrongFalsely : Prop := fnFilterHasRow.holds Try.pinned (OpenSpec.ofChange fnFilterHasWrong)

/-- 'laws.FnExactClashOf': WHATEVER THE INPUT: true; the input reads as it did. -/
def fnExactClashOfSpec : ChangeSpec := { name := "fnExactClashOf", fn := fun _ => fun
  | [d] => { results := [.lit (.bool true)], args := [d] }
  | _ => none }
def fnExactClashOfRow : OpenClaim := { program := "ytbefbenihahdnaa", sum := "0799a63bcf9c373327c9defb812ce56816ab9e12eef430f5a24a20daae54e6ef", func := "loop.example/proofarchive/laws.FnExactClashOf", spec := "fnExactClashOf", apart := false }
def FnExactClashOfSaid : Prop := fnExactClashOfRow.holds Try.pinned (OpenSpec.ofChange fnExactClashOfSpec)

/-- ITS FALSE NEIGHBOUR: 'it returns false'. Refute it at one input. -/
def fnExactClashOfWrong : ChangeSpec := { name := "fnExactClashOf", fn := fun _ => fun
  | [d] => { results := [.lit (.bool false)], args := [d] }
  | _ => none }
def FnExactClashOfWrongFalsely : Prop := fnExactClashOfRow.holds Try.pinned (OpenSpec.ofChange fnExactClashOfWrong)

/-- 'laws.FnFilterOf': WHATEVER THE INPUT: true; the input reads as it did. -/
def fnFilterOfSpec : ChangeSpec := { name := "fnFilterOf", fn := fun _ => fun
  | [d] => { results := [.lit (.bool true)], args := [d] }
  | _ => none }
def fnFilterOfRow : OpenClaim := { program := "ytbefbenihahdnaa", sum := "0799a63bcf9c373327c9defb812ce56816ab9e12eef430f5a24a20daae54e6ef", func := "loop.example/proofarchive/laws.FnFilterOf", spec := "fnFilterOf", apart := false }
def FnFilterOfSaid : Prop := fnFilterOfRow.holds Try.pinned (OpenSpec.ofChange fnFilterOfSpec)

/-- ITS FALSE NEIGHBOUR: 'it returns false'. Refute it at one input. -/
def fnFilterOfWrong : ChangeSpec := { name := "fnFilterOf", fn := fun _ => fun
  | [d] => { results := [.lit (.bool false)], args := [d] }
  | _ => none }
def FnFilterOfWrongFalsely : Prop := fnFilterOfRow.holds Try.pinned (OpenSpec.ofChange fnFilterOfWrong)

/-- 'laws.FnClashOf': WHATEVER THE INPUT: true; the input reads as it did. -/
def fnClashOfSpec : ChangeSpec := { name := "fnClashOf", fn := fun _ => fun
  | [d] => { results := [.lit (.bool true)], args := [d] }
  | _ => none }
def fnClashOfRow : OpenClaim := { program := "ytbefbenihahdnaa", sum := "0799a63bcf9c373327c9defb812ce56816ab9e12eef430f5a24a20daae54e6ef", func := "loop.example/proofarchive/laws.FnClashOf", spec := "fnClashOf", apart := false }
def FnClashOfSaid : Prop := fnClashOfRow.holds Try.pinned (OpenSpec.ofChange fnClashOfSpec)

/-- ITS FALSE NEIGHBOUR: 'it returns false'. Refute it at one input. -/
def fnClashOfWrong : ChangeSpec := { name := "fnClashOf", fn := fun _ => fun
  | [d] => { results := [.lit (.bool false)], args := [d] }
  | _ => none }
def FnClashOfWrongFalsely : Prop := fnClashOfRow.holds Try.pinned (OpenSpec.ofChange fnClashOfWrong)

/-- 'laws.FnExactSpotRight': WHATEVER THE INPUT: true; the input reads as it did. -/
def fnExactSpotRightSpec : ChangeSpec := { name := "fnExactSpotRight", fn := fun _ => fun
  | [d1, d2, d3, d4, d5] => { results := [.lit (.bool true)], args := [d1, d2, d3, d4, d5] }
  | _ => none }
def fnExactSpotRightRow : OpenClaim := { program := "ytbefbenihahdnaa", sum := "0799a63bcf9c373327c9defb812ce56816ab9e12eef430f5a24a20daae54e6ef", func := "loop.example/proofarchive/laws.FnExactSpotRight", spec := "fnExactSpotRight", apart := false }
def FnExactSpotRightSaid : Prop := fnExactSpotRightRow.holds Try.pinned (OpenSpec.ofChange fnExactSpotRightSpec)

/-- ITS FALSE NEIGHBOUR: 'it returns false'. Refute it at one input. -/
def fnExactSpotRightWrong : ChangeSpec := { name := "fnExactSpotRight", fn := fun _ => fun
  | [d1, d2, d3, d4, d5] => { results := [.lit (.bool false)], args := [d1, d2, d3, d4, d5] }
  | _ => none }
def FnExactSpotRightWrongFalsely : Prop := fnExactSpotRightRow.holds Try.pinned (OpenSpec.ofChange fnExactSpotRightWrong)

/-- 'laws.FnExactDamagedPrints': WHATEVER THE INPUT: true; the input reads as it did. -/
def fnExactDamagedPrintsSpec : ChangeSpec := { name := "fnExactDamagedPrints", fn := fun _ => fun
  | [d] => { results := [.lit (.bool true)], args := [d] }
  | _ => none }
def fnExactDamagedPrintsRow : OpenClaim := { program := "ytbefbenihahdnaa", sum := "0799a63bcf9c373327c9defb812ce56816ab9e12eef430f5a24a20daae54e6ef", func := "loop.example/proofarchive/laws.FnExactDamagedPrints", spec := "fnExactDamagedPrints", apart := false }
def FnExactDamagedPrintsSaid : Prop := fnExactDamagedPrintsRow.holds Try.pinned (OpenSpec.ofChange fnExactDamagedPrintsSpec)

/-- ITS FALSE NEIGHBOUR: 'it returns false'. Refute it at one input. -/
def fnExactDamagedPrintsWrong : ChangeSpec := { name := "fnExactDamagedPrints", fn := fun _ => fun
  | [d] => { results := [.lit (.bool false)], args := [d] }
  | _ => none }
def FnExactDamagedPrintsWrongFalsely : Prop := fnExactDamagedPrintsRow.holds Try.pinned (OpenSpec.ofChange fnExactDamagedPrintsWrong)

/-- 'laws.FnFilterWanted': WHATEVER THE INPUT: true; the input reads as it did. -/
def fnFilterWantedSpec : ChangeSpec := { name := "fnFilterWanted", fn := fun _ => fun
  | [d] => { results := [.lit (.bool true)], args := [d] }
  | _ => none }
def fnFilterWantedRow : OpenClaim := { program := "ytbefbenihahdnaa", sum := "0799a63bcf9c373327c9defb812ce56816ab9e12eef430f5a24a20daae54e6ef", func := "loop.example/proofarchive/laws.FnFilterWanted", spec := "fnFilterWanted", apart := false }
def FnFilterWantedSaid : Prop := fnFilterWantedRow.holds Try.pinned (OpenSpec.ofChange fnFilterWantedSpec)

/-- ITS FALSE NEIGHBOUR: 'it returns false'. Refute it at one input. -/
def fnFilterWantedWrong : ChangeSpec := { name := "fnFilterWanted", fn := fun _ => fun
  | [d] => { results := [.lit (.bool false)], args := [d] }
  | _ => none }
def FnFilterWantedWrongFalsely : Prop := fnFilterWantedRow.holds Try.pinned (OpenSpec.ofChange fnFilterWantedWrong)

/-- 'laws.FnExactRepairPieces': WHATEVER THE INPUT: true; the input reads as it did. -/
def fnExactRepairPiecesSpec : ChangeSpec := { name := "fnExactRepairPieces", fn := fun _ => fun
  | [d1, d2] => { results := [.lit (.bool true)], args := [d1, d2] }
  | _ => none }
def fnExactRepairPiecesRow : OpenClaim := { program := "ytbefbenihahdnaa", sum := "0799a63bcf9c373327c9defb812ce56816ab9e12eef430f5a24a20daae54e6ef", func := "loop.example/proofarchive/laws.FnExactRepairPieces", spec := "fnExactRepairPieces", apart := false }
def FnExactRepairPiecesSaid : Prop := fnExactRepairPiecesRow.holds Try.pinned (OpenSpec.ofChange fnExactRepairPiecesSpec)

/-- ITS FALSE NEIGHBOUR: 'it returns false'. Refute it at one input. -/
def fnExactRepairPiecesWrong : ChangeSpec := { name := "fnExactRepairPieces", fn := fun _ => fun
  | [d1, d2] => { results := [.lit (.bool false)], args := [d1, d2] }
  | _ => none }
def FnExactRepairPiecesWrongFalsely : Prop := fnExactRepairPiecesRow.holds Try.pinned (OpenSpec.ofChange fnExactRepairPiecesWrong)

/-- 'laws.FnExactSpotRoot': WHATEVER THE INPUT: true; the input reads as it did. -/
def fnExactSpotRootSpec : ChangeSpec := { name := "fnExactSpotRoot", fn := fun _ => fun
  | [d] => { results := [.lit (.bool true)], args := [d] }
  | _ => none }
def fnExactSpotRootRow : OpenClaim := { program := "ytbefbenihahdnaa", sum := "0799a63bcf9c373327c9defb812ce56816ab9e12eef430f5a24a20daae54e6ef", func := "loop.example/proofarchive/laws.FnExactSpotRoot", spec := "fnExactSpotRoot", apart := false }
def FnExactSpotRootSaid : Prop := fnExactSpotRootRow.holds Try.pinned (OpenSpec.ofChange fnExactSpotRootSpec)

/-- ITS FALSE NEIGHBOUR: 'it returns false'. Refute it at one input. -/
def fnExactSpotRootWrong : ChangeSpec := { name := "fnExactSpotRoot", fn := fun _ => fun
  | [d] => { results := [.lit (.bool false)], args := [d] }
  | _ => none }
def FnExactSpotRootWrongFalsely : Prop := fnExactSpotRootRow.holds Try.pinned (OpenSpec.ofChange fnExactSpotRootWrong)

/-- 'laws.FnRepairPieces': WHATEVER THE INPUT: true; the input reads as it did. -/
def fnRepairPiecesSpec : ChangeSpec := { name := "fnRepairPieces", fn := fun _ => fun
  | [d] => { results := [.lit (.bool true)], args := [d] }
  | _ => none }
def fnRepairPiecesRow : OpenClaim := { program := "ytbefbenihahdnaa", sum := "0799a63bcf9c373327c9defb812ce56816ab9e12eef430f5a24a20daae54e6ef", func := "loop.example/proofarchive/laws.FnRepairPieces", spec := "fnRepairPieces", apart := false }
def FnRepairPiecesSaid : Prop := fnRepairPiecesRow.holds Try.pinned (OpenSpec.ofChange fnRepairPiecesSpec)

/-- ITS FALSE NEIGHBOUR: 'it returns false'. Refute it at one input. -/
def fnRepairPiecesWrong : ChangeSpec := { name := "fnRepairPieces", fn := fun _ => fun
  | [d] => { results := [.lit (.bool false)], args := [d] }
  | _ => none }
def FnRepairPiecesWrongFalsely : Prop := fnRepairPiecesRow.holds Try.pinned (OpenSpec.ofChange fnRepairPiecesWrong)

/-- 'laws.FnSpotAlways': WHATEVER THE INPUT: true; the input reads as it did. -/
def fnSpotAlwaysSpec : ChangeSpec := { name := "fnSpotAlways", fn := fun _ => fun
  | [d] => { results := [.lit (.bool true)], args := [d] }
  | _ => none }
def fnSpotAlwaysRow : OpenClaim := { program := "ytbefbenihahdnaa", sum := "0799a63bcf9c373327c9defb812ce56816ab9e12eef430f5a24a20daae54e6ef", func := "loop.example/proofarchive/laws.FnSpotAlways", spec := "fnSpotAlways", apart := false }
def FnSpotAlwaysSaid : Prop := fnSpotAlwaysRow.holds Try.pinned (OpenSpec.ofChange fnSpotAlwaysSpec)

/-- ITS FALSE NEIGHBOUR: 'it returns false'. Refute it at one input. -/
def fnSpotAlwaysWrong : ChangeSpec := { name := "fnSpotAlways", fn := fun _ => fun
  | [d] => { results := [.lit (.bool false)], args := [d] }
  | _ => none }
def FnSpotAlwaysWrongFalsely : Prop := fnSpotAlwaysRow.holds Try.pinned (OpenSpec.ofChange fnSpotAlwaysWrong)

/-- 'laws.FnSpotRoot': WHATEVER THE INPUT: true; the input reads as it did. -/
def fnSpotRootSpec : ChangeSpec := { name := "fnSpotRoot", fn := fun _ => fun
  | [d] => { results := [.lit (.bool true)], args := [d] }
  | _ => none }
def fnSpotRootRow : OpenClaim := { program := "ytbefbenihahdnaa", sum := "0799a63bcf9c373327c9defb812ce56816ab9e12eef430f5a24a20daae54e6ef", func := "loop.example/proofarchive/laws.FnSpotRoot", spec := "fnSpotRoot", apart := false }
def FnSpotRootSaid : Prop := fnSpotRootRow.holds Try.pinned (OpenSpec.ofChange fnSpotRootSpec)

/-- ITS FALSE NEIGHBOUR: 'it returns false'. Refute it at one input. -/
def fnSpotRootWrong : ChangeSpec := { name := "fnSpotRoot", fn := fun _ => fun
  | [d] => { results := [.lit (.bool false)], args := [d] }
  | _ => none }
def FnSpotRootWrongFalsely : Prop := fnSpotRootRow.holds Try.pinned (OpenSpec.ofChange fnSpotRootWrong)

/-- 'laws.FnMakeTag': WHATEVER THE INPUT: true; the input reads as it did. -/
def fnMakeTagSpec : ChangeSpec := { name := "fnMakeTag", fn := fun _ => fun
  | [d] => { results := [.lit (.bool true)], args := [d] }
  | _ => none }
def fnMakeTagRow : OpenClaim := { program := "ytbefbenihahdnaa", sum := "0799a63bcf9c373327c9defb812ce56816ab9e12eef430f5a24a20daae54e6ef", func := "loop.example/proofarchive/laws.FnMakeTag", spec := "fnMakeTag", apart := false }
def FnMakeTagSaid : Prop := fnMakeTagRow.holds Try.pinned (OpenSpec.ofChange fnMakeTagSpec)

/-- ITS FALSE NEIGHBOUR: 'it returns false'. Refute it at one input. -/
def fnMakeTagWrong : ChangeSpec := { name := "fnMakeTag", fn := fun _ => fun
  | [d] => { results := [.lit (.bool false)], args := [d] }
  | _ => none }
def FnMakeTagWrongFalsely : Prop := fnMakeTagRow.holds Try.pinned (OpenSpec.ofChange fnMakeTagWrong)

/-- 'laws.FnExactMakeTag': WHATEVER THE INPUT: true; the input reads as it did. -/
def fnExactMakeTagSpec : ChangeSpec := { name := "fnExactMakeTag", fn := fun _ => fun
  | [d1, d2, d3] => { results := [.lit (.bool true)], args := [d1, d2, d3] }
  | _ => none }
def fnExactMakeTagRow : OpenClaim := { program := "ytbefbenihahdnaa", sum := "0799a63bcf9c373327c9defb812ce56816ab9e12eef430f5a24a20daae54e6ef", func := "loop.example/proofarchive/laws.FnExactMakeTag", spec := "fnExactMakeTag", apart := false }
def FnExactMakeTagSaid : Prop := fnExactMakeTagRow.holds Try.pinned (OpenSpec.ofChange fnExactMakeTagSpec)

/-- ITS FALSE NEIGHBOUR: 'it returns false'. Refute it at one input. -/
def fnExactMakeTagWrong : ChangeSpec := { name := "fnExactMakeTag", fn := fun _ => fun
  | [d1, d2, d3] => { results := [.lit (.bool false)], args := [d1, d2, d3] }
  | _ => none }
def FnExactMakeTagWrongFalsely : Prop := fnExactMakeTagRow.holds Try.pinned (OpenSpec.ofChange fnExactMakeTagWrong)

/-- 'laws.FnExactTagRight': WHATEVER THE INPUT: true; the input reads as it did. -/
def fnExactTagRightSpec : ChangeSpec := { name := "fnExactTagRight", fn := fun _ => fun
  | [d1, d2] => { results := [.lit (.bool true)], args := [d1, d2] }
  | _ => none }
def fnExactTagRightRow : OpenClaim := { program := "ytbefbenihahdnaa", sum := "0799a63bcf9c373327c9defb812ce56816ab9e12eef430f5a24a20daae54e6ef", func := "loop.example/proofarchive/laws.FnExactTagRight", spec := "fnExactTagRight", apart := false }
def FnExactTagRightSaid : Prop := fnExactTagRightRow.holds Try.pinned (OpenSpec.ofChange fnExactTagRightSpec)

/-- ITS FALSE NEIGHBOUR: 'it returns false'. Refute it at one input. -/
def fnExactTagRightWrong : ChangeSpec := { name := "fnExactTagRight", fn := fun _ => fun
  | [d1, d2] => { results := [.lit (.bool false)], args := [d1, d2] }
  | _ => none }
def FnExactTagRightWrongFalsely : Prop := fnExactTagRightRow.holds Try.pinned (OpenSpec.ofChange fnExactTagRightWrong)

/-- 'laws.FnTagRight': WHATEVER THE INPUT: true; the input reads as it did. -/
def fnTagRightSpec : ChangeSpec := { name := "fnTagRight", fn := fun _ => fun
  | [d] => { results := [.lit (.bool true)], args := [d] }
  | _ => none }
def fnTagRightRow : OpenClaim := { program := "ytbefbenihahdnaa", sum := "0799a63bcf9c373327c9defb812ce56816ab9e12eef430f5a24a20daae54e6ef", func := "loop.example/proofarchive/laws.FnTagRight", spec := "fnTagRight", apart := false }
def FnTagRightSaid : Prop := fnTagRightRow.holds Try.pinned (OpenSpec.ofChange fnTagRightSpec)

/-- ITS FALSE NEIGHBOUR: 'it returns false'. Refute it at one input. -/
def fnTagRightWrong : ChangeSpec := { name := "fnTagRight", fn := fun _ => fun
  | [d] => { results := [.lit (.bool false)], args := [d] }
  | _ => none }
def FnTagRightWrongFalsely : Prop := fnTagRightRow.holds Try.pinned (OpenSpec.ofChange fnTagRightWrong)

/-- 'laws.FnTagsStay': WHATEVER THE INPUT: true; the input reads as it did. -/
def fnTagsStaySpec : ChangeSpec := { name := "fnTagsStay", fn := fun _ => fun
  | [d] => { results := [.lit (.bool true)], args := [d] }
  | _ => none }
def fnTagsStayRow : OpenClaim := { program := "ytbefbenihahdnaa", sum := "0799a63bcf9c373327c9defb812ce56816ab9e12eef430f5a24a20daae54e6ef", func := "loop.example/proofarchive/laws.FnTagsStay", spec := "fnTagsStay", apart := false }
def FnTagsStaySaid : Prop := fnTagsStayRow.holds Try.pinned (OpenSpec.ofChange fnTagsStaySpec)

/-- ITS FALSE NEIGHBOUR: 'it returns false'. Refute it at one input. -/
def fnTagsStayWrong : ChangeSpec := { name := "fnTagsStay", fn := fun _ => fun
  | [d] => { results := [.lit (.bool false)], args := [d] }
  | _ => none }
def FnTagsStayWrongFalsely : Prop := fnTagsStayRow.holds Try.pinned (OpenSpec.ofChange fnTagsStayWrong)

/-- 'laws.FnExactSpotAnswer': WHATEVER THE INPUT: true; the input reads as it did. -/
def fnExactSpotAnswerSpec : ChangeSpec := { name := "fnExactSpotAnswer", fn := fun _ => fun
  | [d1, d2] => { results := [.lit (.bool true)], args := [d1, d2] }
  | _ => none }
def fnExactSpotAnswerRow : OpenClaim := { program := "ytbefbenihahdnaa", sum := "0799a63bcf9c373327c9defb812ce56816ab9e12eef430f5a24a20daae54e6ef", func := "loop.example/proofarchive/laws.FnExactSpotAnswer", spec := "fnExactSpotAnswer", apart := false }
def FnExactSpotAnswerSaid : Prop := fnExactSpotAnswerRow.holds Try.pinned (OpenSpec.ofChange fnExactSpotAnswerSpec)

/-- ITS FALSE NEIGHBOUR: 'it returns false'. Refute it at one input. -/
def fnExactSpotAnswerWrong : ChangeSpec := { name := "fnExactSpotAnswer", fn := fun _ => fun
  | [d1, d2] => { results := [.lit (.bool false)], args := [d1, d2] }
  | _ => none }
def FnExactSpotAnswerWrongFalsely : Prop := fnExactSpotAnswerRow.holds Try.pinned (OpenSpec.ofChange fnExactSpotAnswerWrong)

/-- 'laws.FnRightTags': WHATEVER THE INPUT: true; the input reads as it did. -/
def fnRightTagsSpec : ChangeSpec := { name := "fnRightTags", fn := fun _ => fun
  | [d] => { results := [.lit (.bool true)], args := [d] }
  | _ => none }
def fnRightTagsRow : OpenClaim := { program := "ytbefbenihahdnaa", sum := "0799a63bcf9c373327c9defb812ce56816ab9e12eef430f5a24a20daae54e6ef", func := "loop.example/proofarchive/laws.FnRightTags", spec := "fnRightTags", apart := false }
def FnRightTagsSaid : Prop := fnRightTagsRow.holds Try.pinned (OpenSpec.ofChange fnRightTagsSpec)

/-- ITS FALSE NEIGHBOUR: 'it returns false'. Refute it at one input. -/
def fnRightTagsWrong : ChangeSpec := { name := "fnRightTags", fn := fun _ => fun
  | [d] => { results := [.lit (.bool false)], args := [d] }
  | _ => none }
def FnRightTagsWrongFalsely : Prop := fnRightTagsRow.holds Try.pinned (OpenSpec.ofChange fnRightTagsWrong)

/-- 'laws.FnSpotRight': WHATEVER THE INPUT: true; the input reads as it did. -/
def fnSpotRightSpec : ChangeSpec := { name := "fnSpotRight", fn := fun _ => fun
  | [d] => { results := [.lit (.bool true)], args := [d] }
  | _ => none }
def fnSpotRightRow : OpenClaim := { program := "ytbefbenihahdnaa", sum := "0799a63bcf9c373327c9defb812ce56816ab9e12eef430f5a24a20daae54e6ef", func := "loop.example/proofarchive/laws.FnSpotRight", spec := "fnSpotRight", apart := false }
def FnSpotRightSaid : Prop := fnSpotRightRow.holds Try.pinned (OpenSpec.ofChange fnSpotRightSpec)

/-- ITS FALSE NEIGHBOUR: 'it returns false'. Refute it at one input. -/
def fnSpotRightWrong : ChangeSpec := { name := "fnSpotRight", fn := fun _ => fun
  | [d] => { results := [.lit (.bool false)], args := [d] }
  | _ => none }
def FnSpotRightWrongFalsely : Prop := fnSpotRightRow.holds Try.pinned (OpenSpec.ofChange fnSpotRightWrong)

/-- 'laws.FnSpotAnswer': WHATEVER THE INPUT: true; the input reads as it did. -/
def fnSpotAnswerSpec : ChangeSpec := { name := "fnSpotAnswer", fn := fun _ => fun
  | [d] => { results := [.lit (.bool true)], args := [d] }
  | _ => none }
def fnSpotAnswerRow : OpenClaim := { program := "ytbefbenihahdnaa", sum := "0799a63bcf9c373327c9defb812ce56816ab9e12eef430f5a24a20daae54e6ef", func := "loop.example/proofarchive/laws.FnSpotAnswer", spec := "fnSpotAnswer", apart := false }
def FnSpotAnswerSaid : Prop := fnSpotAnswerRow.holds Try.pinned (OpenSpec.ofChange fnSpotAnswerSpec)

/-- ITS FALSE NEIGHBOUR: 'it returns false'. Refute it at one input. -/
def fnSpotAnswerWrong : ChangeSpec := { name := "fnSpotAnswer", fn := fun _ => fun
  | [d] => { results := [.lit (.bool false)], args := [d] }
  | _ => none }
def FnSpotAnswerWrongFalsely : Prop := fnSpotAnswerRow.holds Try.pinned (OpenSpec.ofChange fnSpotAnswerWrong)

/-- 'laws.FnExactRightTags': WHATEVER THE INPUT: true; the input reads as it did. -/
def fnExactRightTagsSpec : ChangeSpec := { name := "fnExactRightTags", fn := fun _ => fun
  | [d1, d2] => { results := [.lit (.bool true)], args := [d1, d2] }
  | _ => none }
def fnExactRightTagsRow : OpenClaim := { program := "ytbefbenihahdnaa", sum := "0799a63bcf9c373327c9defb812ce56816ab9e12eef430f5a24a20daae54e6ef", func := "loop.example/proofarchive/laws.FnExactRightTags", spec := "fnExactRightTags", apart := false }
def FnExactRightTagsSaid : Prop := fnExactRightTagsRow.holds Try.pinned (OpenSpec.ofChange fnExactRightTagsSpec)

/-- ITS FALSE NEIGHBOUR: 'it returns false'. Refute it at one input. -/
def fnExactRightTagsWrong : ChangeSpec := { name := "fnExactRightTags", fn := fun _ => fun
  | [d1, d2] => { results := [.lit (.bool false)], args := [d1, d2] }
  | _ => none }
def FnExactRightTagsWrongFalsely : Prop := fnExactRightTagsRow.holds Try.pinned (OpenSpec.ofChange fnExactRightTagsWrong)

/- THE SECOND FORM. 'bulk': how many values and letters a reading holds, each counted each time it is reached (what is shared counts as often as it is met; a slice's spare places count too). A statement '..UptoSaid' is the law's where the arguments, and the package variables that the reading takes, are together of bulk at most 1048576: NARROWER than '..Said'. Prove '..Said' where nothing that the law and all that it calls make is longer than what came in: it says more and counts as full. Else prove '..UptoSaid'. A law counts once. -/
mutual
def uptoBulk {H : Type} : DataW H → Nat
  | .lit (.string bytes) => bytes.length + 1
  | .lit _ => 1
  | .nil => 1
  | .ptr d => uptoBulk d + 1
  | .slice elems spare => uptoBulkAll elems + uptoBulkAll spare + 1
  | .agg parts => uptoBulkAll parts + 1
  | .iface _ d => uptoBulk d + 1
  | .map entries => uptoBulkEntries entries + 1
  | .held _ => 1
def uptoBulkAll {H : Type} : List (DataW H) → Nat
  | [] => 0
  | d :: r => uptoBulk d + uptoBulkAll r
def uptoBulkEntries {H : Type} : List (Lit × DataW H) → Nat
  | [] => 0
  | x :: r => uptoBulkEntry x + uptoBulkEntries r
def uptoBulkEntry {H : Type} : Lit × DataW H → Nat
  | (.string bytes, d) => bytes.length + uptoBulk d + 1
  | (_, d) => uptoBulk d + 1
 end
def uptoSmall : (H : Type) → List (DataW H) → Bool := fun _ ds => decide (uptoBulkAll ds ≤ 1048576)
def OpenSpec.upto (s : _root_.Go.ChangeSpec) : _root_.Go.OpenSpec := { _root_.Go.OpenSpec.ofChange s with cond := some uptoSmall }

/-- 'laws.FnExactSpotOf', WHERE WHAT IT READS IS OF BULK AT MOST 1048576: true; the input reads as it did. -/
def fnExactSpotOfUptoRow : OpenClaim := { program := "ytbefbenihahdnaa", sum := "0799a63bcf9c373327c9defb812ce56816ab9e12eef430f5a24a20daae54e6ef", func := "loop.example/proofarchive/laws.FnExactSpotOf", spec := "fnExactSpotOf", apart := false, narrowed := true }
def FnExactSpotOfUptoSaid : Prop := fnExactSpotOfUptoRow.holds Try.pinned (OpenSpec.upto fnExactSpotOfSpec)

/-- 'laws.FnExactFoldName', WHERE WHAT IT READS IS OF BULK AT MOST 1048576: true; the input reads as it did. -/
def fnExactFoldNameUptoRow : OpenClaim := { program := "ytbefbenihahdnaa", sum := "0799a63bcf9c373327c9defb812ce56816ab9e12eef430f5a24a20daae54e6ef", func := "loop.example/proofarchive/laws.FnExactFoldName", spec := "fnExactFoldName", apart := false, narrowed := true }
def FnExactFoldNameUptoSaid : Prop := fnExactFoldNameUptoRow.holds Try.pinned (OpenSpec.upto fnExactFoldNameSpec)

/-- 'laws.FnExactPieceRight', WHERE WHAT IT READS IS OF BULK AT MOST 1048576: true; the input reads as it did. -/
def fnExactPieceRightUptoRow : OpenClaim := { program := "ytbefbenihahdnaa", sum := "0799a63bcf9c373327c9defb812ce56816ab9e12eef430f5a24a20daae54e6ef", func := "loop.example/proofarchive/laws.FnExactPieceRight", spec := "fnExactPieceRight", apart := false, narrowed := true }
def FnExactPieceRightUptoSaid : Prop := fnExactPieceRightUptoRow.holds Try.pinned (OpenSpec.upto fnExactPieceRightSpec)

/-- 'laws.FnFoldName', WHERE WHAT IT READS IS OF BULK AT MOST 1048576: true; the input reads as it did. -/
def fnFoldNameUptoRow : OpenClaim := { program := "ytbefbenihahdnaa", sum := "0799a63bcf9c373327c9defb812ce56816ab9e12eef430f5a24a20daae54e6ef", func := "loop.example/proofarchive/laws.FnFoldName", spec := "fnFoldName", apart := false, narrowed := true }
def FnFoldNameUptoSaid : Prop := fnFoldNameUptoRow.holds Try.pinned (OpenSpec.upto fnFoldNameSpec)

/-- 'laws.FnSpotOf', WHERE WHAT IT READS IS OF BULK AT MOST 1048576: true; the input reads as it did. -/
def fnSpotOfUptoRow : OpenClaim := { program := "ytbefbenihahdnaa", sum := "0799a63bcf9c373327c9defb812ce56816ab9e12eef430f5a24a20daae54e6ef", func := "loop.example/proofarchive/laws.FnSpotOf", spec := "fnSpotOf", apart := false, narrowed := true }
def FnSpotOfUptoSaid : Prop := fnSpotOfUptoRow.holds Try.pinned (OpenSpec.upto fnSpotOfSpec)

/-- 'laws.FnFilterJoin', WHERE WHAT IT READS IS OF BULK AT MOST 1048576: true; the input reads as it did. -/
def fnFilterJoinUptoRow : OpenClaim := { program := "ytbefbenihahdnaa", sum := "0799a63bcf9c373327c9defb812ce56816ab9e12eef430f5a24a20daae54e6ef", func := "loop.example/proofarchive/laws.FnFilterJoin", spec := "fnFilterJoin", apart := false, narrowed := true }
def FnFilterJoinUptoSaid : Prop := fnFilterJoinUptoRow.holds Try.pinned (OpenSpec.upto fnFilterJoinSpec)

/-- 'laws.FnPieceRight', WHERE WHAT IT READS IS OF BULK AT MOST 1048576: true; the input reads as it did. -/
def fnPieceRightUptoRow : OpenClaim := { program := "ytbefbenihahdnaa", sum := "0799a63bcf9c373327c9defb812ce56816ab9e12eef430f5a24a20daae54e6ef", func := "loop.example/proofarchive/laws.FnPieceRight", spec := "fnPieceRight", apart := false, narrowed := true }
def FnPieceRightUptoSaid : Prop := fnPieceRightUptoRow.holds Try.pinned (OpenSpec.upto fnPieceRightSpec)

/-- 'laws.FnFilterHas', WHERE WHAT IT READS IS OF BULK AT MOST 1048576: true; the input reads as it did. -/
def fnFilterHasUptoRow : OpenClaim := { program := "ytbefbenihahdnaa", sum := "0799a63bcf9c373327c9defb812ce56816ab9e12eef430f5a24a20daae54e6ef", func := "loop.example/proofarchive/laws.FnFilterHas", spec := "fnFilterHas", apart := false, narrowed := true }
def FnFilterHasUptoSaid : Prop := fnFilterHasUptoRow.holds Try.pinned (OpenSpec.upto fnFilterHasSpec)

/-- 'laws.FnExactClashOf', WHERE WHAT IT READS IS OF BULK AT MOST 1048576: true; the input reads as it did. -/
def fnExactClashOfUptoRow : OpenClaim := { program := "ytbefbenihahdnaa", sum := "0799a63bcf9c373327c9defb812ce56816ab9e12eef430f5a24a20daae54e6ef", func := "loop.example/proofarchive/laws.FnExactClashOf", spec := "fnExactClashOf", apart := false, narrowed := true }
def FnExactClashOfUptoSaid : Prop := fnExactClashOfUptoRow.holds Try.pinned (OpenSpec.upto fnExactClashOfSpec)

/-- 'laws.FnFilterOf', WHERE WHAT IT READS IS OF BULK AT MOST 1048576: true; the input reads as it did. -/
def fnFilterOfUptoRow : OpenClaim := { program := "ytbefbenihahdnaa", sum := "0799a63bcf9c373327c9defb812ce56816ab9e12eef430f5a24a20daae54e6ef", func := "loop.example/proofarchive/laws.FnFilterOf", spec := "fnFilterOf", apart := false, narrowed := true }
def FnFilterOfUptoSaid : Prop := fnFilterOfUptoRow.holds Try.pinned (OpenSpec.upto fnFilterOfSpec)

/-- 'laws.FnClashOf', WHERE WHAT IT READS IS OF BULK AT MOST 1048576: true; the input reads as it did. -/
def fnClashOfUptoRow : OpenClaim := { program := "ytbefbenihahdnaa", sum := "0799a63bcf9c373327c9defb812ce56816ab9e12eef430f5a24a20daae54e6ef", func := "loop.example/proofarchive/laws.FnClashOf", spec := "fnClashOf", apart := false, narrowed := true }
def FnClashOfUptoSaid : Prop := fnClashOfUptoRow.holds Try.pinned (OpenSpec.upto fnClashOfSpec)

/-- 'laws.FnExactSpotRight', WHERE WHAT IT READS IS OF BULK AT MOST 1048576: true; the input reads as it did. -/
def fnExactSpotRightUptoRow : OpenClaim := { program := "ytbefbenihahdnaa", sum := "0799a63bcf9c373327c9defb812ce56816ab9e12eef430f5a24a20daae54e6ef", func := "loop.example/proofarchive/laws.FnExactSpotRight", spec := "fnExactSpotRight", apart := false, narrowed := true }
def FnExactSpotRightUptoSaid : Prop := fnExactSpotRightUptoRow.holds Try.pinned (OpenSpec.upto fnExactSpotRightSpec)

/-- 'laws.FnExactDamagedPrints', WHERE WHAT IT READS IS OF BULK AT MOST 1048576: true; the input reads as it did. -/
def fnExactDamagedPrintsUptoRow : OpenClaim := { program := "ytbefbenihahdnaa", sum := "0799a63bcf9c373327c9defb812ce56816ab9e12eef430f5a24a20daae54e6ef", func := "loop.example/proofarchive/laws.FnExactDamagedPrints", spec := "fnExactDamagedPrints", apart := false, narrowed := true }
def FnExactDamagedPrintsUptoSaid : Prop := fnExactDamagedPrintsUptoRow.holds Try.pinned (OpenSpec.upto fnExactDamagedPrintsSpec)

/-- 'laws.FnFilterWanted', WHERE WHAT IT READS IS OF BULK AT MOST 1048576: true; the input reads as it did. -/
def fnFilterWantedUptoRow : OpenClaim := { program := "ytbefbenihahdnaa", sum := "0799a63bcf9c373327c9defb812ce56816ab9e12eef430f5a24a20daae54e6ef", func := "loop.example/proofarchive/laws.FnFilterWanted", spec := "fnFilterWanted", apart := false, narrowed := true }
def FnFilterWantedUptoSaid : Prop := fnFilterWantedUptoRow.holds Try.pinned (OpenSpec.upto fnFilterWantedSpec)

/-- 'laws.FnExactRepairPieces', WHERE WHAT IT READS IS OF BULK AT MOST 1048576: true; the input reads as it did. -/
def fnExactRepairPiecesUptoRow : OpenClaim := { program := "ytbefbenihahdnaa", sum := "0799a63bcf9c373327c9defb812ce56816ab9e12eef430f5a24a20daae54e6ef", func := "loop.example/proofarchive/laws.FnExactRepairPieces", spec := "fnExactRepairPieces", apart := false, narrowed := true }
def FnExactRepairPiecesUptoSaid : Prop := fnExactRepairPiecesUptoRow.holds Try.pinned (OpenSpec.upto fnExactRepairPiecesSpec)

/-- 'laws.FnExactSpotRoot', WHERE WHAT IT READS IS OF BULK AT MOST 1048576: true; the input reads as it did. -/
def fnExactSpotRootUptoRow : OpenClaim := { program := "ytbefbenihahdnaa", sum := "0799a63bcf9c373327c9defb812ce56816ab9e12eef430f5a24a20daae54e6ef", func := "loop.example/proofarchive/laws.FnExactSpotRoot", spec := "fnExactSpotRoot", apart := false, narrowed := true }
def FnExactSpotRootUptoSaid : Prop := fnExactSpotRootUptoRow.holds Try.pinned (OpenSpec.upto fnExactSpotRootSpec)

/-- 'laws.FnRepairPieces', WHERE WHAT IT READS IS OF BULK AT MOST 1048576: true; the input reads as it did. -/
def fnRepairPiecesUptoRow : OpenClaim := { program := "ytbefbenihahdnaa", sum := "0799a63bcf9c373327c9defb812ce56816ab9e12eef430f5a24a20daae54e6ef", func := "loop.example/proofarchive/laws.FnRepairPieces", spec := "fnRepairPieces", apart := false, narrowed := true }
def FnRepairPiecesUptoSaid : Prop := fnRepairPiecesUptoRow.holds Try.pinned (OpenSpec.upto fnRepairPiecesSpec)

/-- 'laws.FnSpotAlways', WHERE WHAT IT READS IS OF BULK AT MOST 1048576: true; the input reads as it did. -/
def fnSpotAlwaysUptoRow : OpenClaim := { program := "ytbefbenihahdnaa", sum := "0799a63bcf9c373327c9defb812ce56816ab9e12eef430f5a24a20daae54e6ef", func := "loop.example/proofarchive/laws.FnSpotAlways", spec := "fnSpotAlways", apart := false, narrowed := true }
def FnSpotAlwaysUptoSaid : Prop := fnSpotAlwaysUptoRow.holds Try.pinned (OpenSpec.upto fnSpotAlwaysSpec)

/-- 'laws.FnSpotRoot', WHERE WHAT IT READS IS OF BULK AT MOST 1048576: true; the input reads as it did. -/
def fnSpotRootUptoRow : OpenClaim := { program := "ytbefbenihahdnaa", sum := "0799a63bcf9c373327c9defb812ce56816ab9e12eef430f5a24a20daae54e6ef", func := "loop.example/proofarchive/laws.FnSpotRoot", spec := "fnSpotRoot", apart := false, narrowed := true }
def FnSpotRootUptoSaid : Prop := fnSpotRootUptoRow.holds Try.pinned (OpenSpec.upto fnSpotRootSpec)

/-- 'laws.FnMakeTag', WHERE WHAT IT READS IS OF BULK AT MOST 1048576: true; the input reads as it did. -/
def fnMakeTagUptoRow : OpenClaim := { program := "ytbefbenihahdnaa", sum := "0799a63bcf9c373327c9defb812ce56816ab9e12eef430f5a24a20daae54e6ef", func := "loop.example/proofarchive/laws.FnMakeTag", spec := "fnMakeTag", apart := false, narrowed := true }
def FnMakeTagUptoSaid : Prop := fnMakeTagUptoRow.holds Try.pinned (OpenSpec.upto fnMakeTagSpec)

/-- 'laws.FnExactMakeTag', WHERE WHAT IT READS IS OF BULK AT MOST 1048576: true; the input reads as it did. -/
def fnExactMakeTagUptoRow : OpenClaim := { program := "ytbefbenihahdnaa", sum := "0799a63bcf9c373327c9defb812ce56816ab9e12eef430f5a24a20daae54e6ef", func := "loop.example/proofarchive/laws.FnExactMakeTag", spec := "fnExactMakeTag", apart := false, narrowed := true }
def FnExactMakeTagUptoSaid : Prop := fnExactMakeTagUptoRow.holds Try.pinned (OpenSpec.upto fnExactMakeTagSpec)

/-- 'laws.FnExactTagRight', WHERE WHAT IT READS IS OF BULK AT MOST 1048576: true; the input reads as it did. -/
def fnExactTagRightUptoRow : OpenClaim := { program := "ytbefbenihahdnaa", sum := "0799a63bcf9c373327c9defb812ce56816ab9e12eef430f5a24a20daae54e6ef", func := "loop.example/proofarchive/laws.FnExactTagRight", spec := "fnExactTagRight", apart := false, narrowed := true }
def FnExactTagRightUptoSaid : Prop := fnExactTagRightUptoRow.holds Try.pinned (OpenSpec.upto fnExactTagRightSpec)

/-- 'laws.FnTagRight', WHERE WHAT IT READS IS OF BULK AT MOST 1048576: true; the input reads as it did. -/
def fnTagRightUptoRow : OpenClaim := { program := "ytbefbenihahdnaa", sum := "0799a63bcf9c373327c9defb812ce56816ab9e12eef430f5a24a20daae54e6ef", func := "loop.example/proofarchive/laws.FnTagRight", spec := "fnTagRight", apart := false, narrowed := true }
def FnTagRightUptoSaid : Prop := fnTagRightUptoRow.holds Try.pinned (OpenSpec.upto fnTagRightSpec)

/-- 'laws.FnTagsStay', WHERE WHAT IT READS IS OF BULK AT MOST 1048576: true; the input reads as it did. -/
def fnTagsStayUptoRow : OpenClaim := { program := "ytbefbenihahdnaa", sum := "0799a63bcf9c373327c9defb812ce56816ab9e12eef430f5a24a20daae54e6ef", func := "loop.example/proofarchive/laws.FnTagsStay", spec := "fnTagsStay", apart := false, narrowed := true }
def FnTagsStayUptoSaid : Prop := fnTagsStayUptoRow.holds Try.pinned (OpenSpec.upto fnTagsStaySpec)

/-- 'laws.FnExactSpotAnswer', WHERE WHAT IT READS IS OF BULK AT MOST 1048576: true; the input reads as it did. -/
def fnExactSpotAnswerUptoRow : OpenClaim := { program := "ytbefbenihahdnaa", sum := "0799a63bcf9c373327c9defb812ce56816ab9e12eef430f5a24a20daae54e6ef", func := "loop.example/proofarchive/laws.FnExactSpotAnswer", spec := "fnExactSpotAnswer", apart := false, narrowed := true }
def FnExactSpotAnswerUptoSaid : Prop := fnExactSpotAnswerUptoRow.holds Try.pinned (OpenSpec.upto fnExactSpotAnswerSpec)

/-- 'laws.FnRightTags', WHERE WHAT IT READS IS OF BULK AT MOST 1048576: true; the input reads as it did. -/
def fnRightTagsUptoRow : OpenClaim := { program := "ytbefbenihahdnaa", sum := "0799a63bcf9c373327c9defb812ce56816ab9e12eef430f5a24a20daae54e6ef", func := "loop.example/proofarchive/laws.FnRightTags", spec := "fnRightTags", apart := false, narrowed := true }
def FnRightTagsUptoSaid : Prop := fnRightTagsUptoRow.holds Try.pinned (OpenSpec.upto fnRightTagsSpec)

/-- 'laws.FnSpotRight', WHERE WHAT IT READS IS OF BULK AT MOST 1048576: true; the input reads as it did. -/
def fnSpotRightUptoRow : OpenClaim := { program := "ytbefbenihahdnaa", sum := "0799a63bcf9c373327c9defb812ce56816ab9e12eef430f5a24a20daae54e6ef", func := "loop.example/proofarchive/laws.FnSpotRight", spec := "fnSpotRight", apart := false, narrowed := true }
def FnSpotRightUptoSaid : Prop := fnSpotRightUptoRow.holds Try.pinned (OpenSpec.upto fnSpotRightSpec)

/-- 'laws.FnSpotAnswer', WHERE WHAT IT READS IS OF BULK AT MOST 1048576: true; the input reads as it did. -/
def fnSpotAnswerUptoRow : OpenClaim := { program := "ytbefbenihahdnaa", sum := "0799a63bcf9c373327c9defb812ce56816ab9e12eef430f5a24a20daae54e6ef", func := "loop.example/proofarchive/laws.FnSpotAnswer", spec := "fnSpotAnswer", apart := false, narrowed := true }
def FnSpotAnswerUptoSaid : Prop := fnSpotAnswerUptoRow.holds Try.pinned (OpenSpec.upto fnSpotAnswerSpec)

/-- 'laws.FnExactRightTags', WHERE WHAT IT READS IS OF BULK AT MOST 1048576: true; the input reads as it did. -/
def fnExactRightTagsUptoRow : OpenClaim := { program := "ytbefbenihahdnaa", sum := "0799a63bcf9c373327c9defb812ce56816ab9e12eef430f5a24a20daae54e6ef", func := "loop.example/proofarchive/laws.FnExactRightTags", spec := "fnExactRightTags", apart := false, narrowed := true }
def FnExactRightTagsUptoSaid : Prop := fnExactRightTagsUptoRow.holds Try.pinned (OpenSpec.upto fnExactRightTagsSpec)

end Rows
end Go.Proofs.Ytbefbenihahdnaa
