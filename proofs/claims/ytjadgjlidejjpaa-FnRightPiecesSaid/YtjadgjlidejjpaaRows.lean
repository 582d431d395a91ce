/-
  No cell of these rows narrows 'for every input' (looked for: loops, veiled, ifaces, maps, wideKeys, modest, calm, conditions, laid).
  DERIVED. THE GIVEN ROWS OF THIS SEAT. 5 by the template 'for every input the law returns true; each argument reads behind the call as it read before'; 0 by the template 'total and deterministic' (their statements: YtjadgjlidejjpaaTotals.lean).
  GIVEN WITH THE SEED: the statements are not yours to turn. If you find one false, say at which input.
  Laid BY PROGRAM, IN A SANDBOX (cutbox-rows.mjs): the forced cells as the released guide's own fill.sh prints them over the translation 14c02e563240161a… (all of the seat's roots in one cut). By AI agents, Wed Nov 11 2026. No macro, syntax, notation, axiom, sorry.
-/
import Derived.Test.YtjadgjlidejjpaaChecked
import GoSem.Claim
import GoSem.ClaimJoined
import GoSem.ClaimMapViews
import Derived.JoinedTies
import Derived.KernelRfl
namespace Go.Proofs.Ytjadgjlidejjpaa
/- THE CELL 'sum', in the pinned program and in every row, IS THE sha256 OF THE DUMP (.gsa) THAT YtjadgjlidejjpaaProg.lean LOADS. Nothing in Lean hashes anything: it is a label: what it is worth is what the hold of that sum in a sandbox is worth. -/
noncomputable def Try.pinned : Pinned := { name := "ytjadgjlidejjpaa", sum := "14c02e563240161a1629f8e7f6847dae793c93c70a044fdccebc871c81d897cc", checked := Try.checked }
namespace Rows
def none {H : Type} : Left H := { results := [], args := [] }

/-- 'laws.FnExactBundlePrint': WHATEVER THE INPUT: true; the input reads as it did. -/
def fnExactBundlePrintSpec : ChangeSpec := { name := "fnExactBundlePrint", fn := fun _ => fun
  | [d] => { results := [.lit (.bool true)], args := [d] }
  | _ => none }
def fnExactBundlePrintRow : OpenClaim := { program := "ytjadgjlidejjpaa", sum := "14c02e563240161a1629f8e7f6847dae793c93c70a044fdccebc871c81d897cc", func := "loop.example/proofarchive/laws.FnExactBundlePrint", spec := "fnExactBundlePrint", apart := false }
def FnExactBundlePrintSaid : Prop := fnExactBundlePrintRow.holds Try.pinned (OpenSpec.ofChange fnExactBundlePrintSpec)

/-- ITS FALSE NEIGHBOUR: 'it returns false'. Refute it at one input. -/
def fnExactBundlePrintWrong : ChangeSpec := { name := "fnExactBundlePrint", fn := fun _ => fun
  | [d] => { results := [.lit (.bool false)], args := [d] }
  | _ => none }
def FnExactBundlePrintWrongFalsely : Prop := fnExactBundlePrintRow.holds Try.pinned (OpenSpec.ofChange fnExactBundlePrintWrong)

/-- 'laws.FnExactRightPieces': WHATEVER THE INPUT: true; the input reads as it did. -/
def fnExactRightPiecesSpec : ChangeSpec := { name := "fnExactRightPieces", fn := fun _ => fun
  | [d] => { results := [.lit (.bool true)], args := [d] }
  | _ => none }
def fnExactRightPiecesRow : OpenClaim := { program := "ytjadgjlidejjpaa", sum := "14c02e563240161a1629f8e7f6847dae793c93c70a044fdccebc871c81d897cc", func := "loop.example/proofarchive/laws.FnExactRightPieces", spec := "fnExactRightPieces", inPlace := ["slices.overlaps[loop.example/proofarchive/impl.Piece]"], unfollowed := true, recurses := true, apart := false }
def FnExactRightPiecesSaid : Prop := fnExactRightPiecesRow.holds Try.pinned (OpenSpec.ofChange fnExactRightPiecesSpec)

/-- ITS FALSE NEIGHBOUR: 'it returns false'. Refute it at one input. -/
def fnExactRightPiecesWrong : ChangeSpec := { name := "fnExactRightPieces", fn := fun _ => fun
  | [d] => { results := [.lit (.bool false)], args := [d] }
  | _ => none }
def FnExactRightPiecesWrongFalsely : Prop := fnExactRightPiecesRow.holds Try.pinned (OpenSpec.ofChange fnExactRightPiecesWrong)

/-- 'laws.FnRightPieces': WHATEVER THE INPUT: true; the input reads as it did. -/
def fnRightPiecesSpec : ChangeSpec := { name := "fnRightPieces", fn := fun _ => fun
  | [d] => { results := [.lit (.bool true)], args := [d] }
  | _ => none }
def fnRightPiecesRow : OpenClaim := { program := "ytjadgjlidejjpaa", sum := "14c02e563240161a1629f8e7f6847dae793c93c70a044fdccebc871c81d897cc", func := "loop.example/proofarchive/laws.FnRightPieces", spec := "fnRightPieces", inPlace := ["slices.overlaps[loop.example/proofarchive/impl.Piece]"], unfollowed := true, recurses := true, apart := false }
def FnRightPiecesSaid : Prop := fnRightPiecesRow.holds Try.pinned (OpenSpec.ofChange fnRightPiecesSpec)

/-- ITS FALSE NEIGHBOUR: 'it returns false'. Refute it at one input. -/
def fnRightPiecesWrong : ChangeSpec := { name := "fnRightPieces", fn := fun _ => fun
  | [d] => { results := [.lit (.bool false)], args := [d] }
  | _ => none }
def FnRightPiecesWrongFalsely : Prop := fnRightPiecesRow.holds Try.pinned (OpenSpec.ofChange fnRightPiecesWrong)

/-- 'laws.FnDamagedPrints': WHATEVER THE INPUT: true; the input reads as it did. -/
def fnDamagedPrintsSpec : ChangeSpec := { name := "fnDamagedPrints", fn := fun _ => fun
  | [d] => { results := [.lit (.bool true)], args := [d] }
  | _ => none }
def fnDamagedPrintsRow : OpenClaim := { program := "ytjadgjlidejjpaa", sum := "14c02e563240161a1629f8e7f6847dae793c93c70a044fdccebc871c81d897cc", func := "loop.example/proofarchive/laws.FnDamagedPrints", spec := "fnDamagedPrints", inPlace := ["slices.overlaps[loop.example/proofarchive/impl.Piece]"], unfollowed := true, recurses := true, apart := false }
def FnDamagedPrintsSaid : Prop := fnDamagedPrintsRow.holds Try.pinned (OpenSpec.ofChange fnDamagedPrintsSpec)

/-- ITS FALSE NEIGHBOUR: 'it returns false'. Refute it at one input. -/
def fnDamagedPrintsWrong : ChangeSpec := { name := "fnDamagedPrints", fn := fun _ => fun
  | [d] => { results := [.lit (.bool false)], args := [d] }
  | _ => none }
def FnDamagedPrintsWrongFalsely : Prop := fnDamagedPrintsRow.holds Try.pinned (OpenSpec.ofChange fnDamagedPrintsWrong)

/-- 'laws.FnBundlePrint': WHATEVER THE INPUT: true; the input reads as it did. -/
def fnBundlePrintSpec : ChangeSpec := { name := "fnBundlePrint", fn := fun _ => fun
  | [d] => { results := [.lit (.bool true)], args := [d] }
  | _ => none }
def fnBundlePrintRow : OpenClaim := { program := "ytjadgjlidejjpaa", sum := "14c02e563240161a1629f8e7f6847dae793c93c70a044fdccebc871c81d897cc", func := "loop.example/proofarchive/laws.FnBundlePrint", spec := "fnBundlePrint", recurses := true, apart := false }
def FnBundlePrintSaid : Prop := fnBundlePrintRow.holds Try.pinned (OpenSpec.ofChange fnBundlePrintSpec)

/-- ITS FALSE NEIGHBOUR: 'it returns false'. Refute it at one input. -/
def fnBundlePrintWrong : ChangeSpec := { name := "fnBundlePrint", fn := fun _ => fun
  | [d] => { results := [.lit (.bool false)], args := [d] }
  | _ => none }
def FnBundlePrintWrongFalsely : Prop := fnBundlePrintRow.holds Try.pinned (OpenSpec.ofChange fnBundlePrintWrong)

/- THE SECOND FORM. 'bulk': how many values and letters a reading holds, each counted each time it is reached (what is shared counts as often as it is met; a slice's spare places count too). A statement '..UptoSaid' is the law's where the arguments, and the package variables that the reading takes, are together of bulk at most 1048576: NARROWER than '..Said'. Prove '..Said' where nothing that the law and all that it calls make is longer than what came in: it says more and counts as full. Else prove '..UptoSaid'. A law counts once. -/
mutual
def uptoBulk {H : Type} : DataW H → Nat
  | .lit (.string bytes) => bytes.length + 1
  | .lit _ => 1
  | .nil => 1
  | .ptr d => uptoBulk d + 1
  | .slice elems spare => uptoBulkAll elems + uptoBulkAll spare + 1
  | .agg parts => uptoBulkAll parts + 1
  | .iface _ d => uptoBulk d + 1
  | .map entries => uptoBulkEntries entries + 1
  | .held _ => 1
def uptoBulkAll {H : Type} : List (DataW H) → Nat
  | [] => 0
  | d :: r => uptoBulk d + uptoBulkAll r
def uptoBulkEntries {H : Type} : List (Lit × DataW H) → Nat
  | [] => 0
  | x :: r => uptoBulkEntry x + uptoBulkEntries r
def uptoBulkEntry {H : Type} : Lit × DataW H → Nat
  | (.string bytes, d) => bytes.length + uptoBulk d + 1
  | (_, d) => uptoBulk d + 1
 end
def uptoSmall : (H : Type) → List (DataW H) → Bool := fun _ ds => decide (uptoBulkAll ds ≤ 1048576)
def OpenSpec.upto (s : _root_.Go.ChangeSpec) : _root_.Go.OpenSpec := { _root_.Go.OpenSpec.ofChange s with cond := some uptoSmall }

/-- 'laws.FnExactBundlePrint', WHERE WHAT IT READS IS OF BULK AT MOST 1048576: true; the input reads as it did. -/
def fnExactBundlePrintUptoRow : OpenClaim := { program := "ytjadgjlidejjpaa", sum := "14c02e563240161a1629f8e7f6847dae793c93c70a044fdccebc871c81d897cc", func := "loop.example/proofarchive/laws.FnExactBundlePrint", spec := "fnExactBundlePrint", apart := false, narrowed := true }
def FnExactBundlePrintUptoSaid : Prop := fnExactBundlePrintUptoRow.holds Try.pinned (OpenSpec.upto fnExactBundlePrintSpec)

/-- 'laws.FnExactRightPieces', WHERE WHAT IT READS IS OF BULK AT MOST 1048576: true; the input reads as it did. -/
def fnExactRightPiecesUptoRow : OpenClaim := { program := "ytjadgjlidejjpaa", sum := "14c02e563240161a1629f8e7f6847dae793c93c70a044fdccebc871c81d897cc", func := "loop.example/proofarchive/laws.FnExactRightPieces", spec := "fnExactRightPieces", inPlace := ["slices.overlaps[loop.example/proofarchive/impl.Piece]"], unfollowed := true, recurses := true, apart := false, narrowed := true }
def FnExactRightPiecesUptoSaid : Prop := fnExactRightPiecesUptoRow.holds Try.pinned (OpenSpec.upto fnExactRightPiecesSpec)

/-- 'laws.FnRightPieces', WHERE WHAT IT READS IS OF BULK AT MOST 1048576: true; the input reads as it did. -/
def fnRightPiecesUptoRow : OpenClaim := { program := "ytjadgjlidejjpaa", sum := "14c02e563240161a1629f8e7f6847dae793c93c70a044fdccebc871c81d897cc", func := "loop.example/proofarchive/laws.FnRightPieces", spec := "fnRightPieces", inPlace := ["slices.overlaps[loop.example/proofarchive/impl.Piece]"], unfollowed := true, recurses := true, apart := false, narrowed := true }
def FnRightPiecesUptoSaid : Prop := fnRightPiecesUptoRow.holds Try.pinned (OpenSpec.upto fnRightPiecesSpec)

/-- 'laws.FnDamagedPrints', WHERE WHAT IT READS IS OF BULK AT MOST 1048576: true; the input reads as it did. -/
def fnDamagedPrintsUptoRow : OpenClaim := { program := "ytjadgjlidejjpaa", sum := "14c02e563240161a1629f8e7f6847dae793c93c70a044fdccebc871c81d897cc", func := "loop.example/proofarchive/laws.FnDamagedPrints", spec := "fnDamagedPrints", inPlace := ["slices.overlaps[loop.example/proofarchive/impl.Piece]"], unfollowed := true, recurses := true, apart := false, narrowed := true }
def FnDamagedPrintsUptoSaid : Prop := fnDamagedPrintsUptoRow.holds Try.pinned (OpenSpec.upto fnDamagedPrintsSpec)

/-- 'laws.FnBundlePrint', WHERE WHAT IT READS IS OF BULK AT MOST 1048576: true; the input reads as it did. -/
def fnBundlePrintUptoRow : OpenClaim := { program := "ytjadgjlidejjpaa", sum := "14c02e563240161a1629f8e7f6847dae793c93c70a044fdccebc871c81d897cc", func := "loop.example/proofarchive/laws.FnBundlePrint", spec := "fnBundlePrint", recurses := true, apart := false, narrowed := true }
def FnBundlePrintUptoSaid : Prop := fnBundlePrintUptoRow.holds Try.pinned (OpenSpec.upto fnBundlePrintSpec)

end Rows
end Go.Proofs.Ytjadgjlidejjpaa
