/-
  DERIVED. GIVEN WITH THE SEED: THE CARDS: each row of YtokelopllbaikaaGreatDoorRows.lean that lists a variable, with what it lists TIED to the program's text (the seventh form; the later family's looks); each row that meets fmt, with fmt's text TOLD by the authors' own Lean function (tested against real Go, not proved from fmt's source: count such statements apart). THE CARD IS WHAT COUNTS. Prove the row's statement (the work); the ties are given (YtokelopllbaikaaGreatDoorTie.lean); close each card by the builder's one call (the guide's Derived/Test/ToyasCard.lean, 'card_holds'). Laid BY PROGRAM, IN A SANDBOX (cutbox-door.mjs). By AI agents, Wed Nov 11 2026. No macro, syntax, notation, axiom, sorry.
-/
import Derived.Test.YtokelopllbaikaaGreatDoorRows
import GoSem.ClaimSeven
namespace Go.Proofs.YtokelopllbaikaaGreatDoor
namespace Rows

/-- THE TIED CARD OF 'laws.FnTotalSize'. -/
def fnTotalSizeCard : Claim7 := { stood := { row := fnTotalSizeRow, standIns := [], harness := (true, "09ded0d4b3d843c25157905db5690dd3482b0fe3991132aa5e0e9c25b2667fb0"), looks := false }, kinds := [], alts := [], laidByText := true, laidKinds := [.data, .data, .data, .data, .pinned], laidTests := true, laidLooks := .later }
def FnTotalSizeCardSaid : Prop := Claim7.holds Tryz.pinned (.plain (OpenSpec.ofChange fnTotalSizeSpec)) fnTotalSizeCard

/-- THE SECOND FORM's CARD OF 'laws.FnTotalSize'. -/
def fnTotalSizeUptoCard : Claim7 := { stood := { row := fnTotalSizeUptoRow, standIns := [], harness := (true, "09ded0d4b3d843c25157905db5690dd3482b0fe3991132aa5e0e9c25b2667fb0"), looks := false }, kinds := [], alts := [], laidByText := true, laidKinds := [.data, .data, .data, .data, .pinned], laidTests := true, laidLooks := .later }
def FnTotalSizeUptoCardSaid : Prop := Claim7.holds Tryz.pinned (.plain (OpenSpec.upto fnTotalSizeSpec)) fnTotalSizeUptoCard
end Rows
end Go.Proofs.YtokelopllbaikaaGreatDoor
