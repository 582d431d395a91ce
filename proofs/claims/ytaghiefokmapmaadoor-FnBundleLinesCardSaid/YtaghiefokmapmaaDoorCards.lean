/-
  DERIVED. GIVEN WITH THE SEED: THE CARDS: each row of YtaghiefokmapmaaDoorRows.lean that lists a variable, with what it lists TIED to the program's text (the seventh form; the later family's looks); each row that meets fmt, with fmt's text TOLD by the authors' own Lean function (tested against real Go, not proved from fmt's source: count such statements apart). THE CARD IS WHAT COUNTS. Prove the row's statement (the work); the ties are given (YtaghiefokmapmaaDoorTie.lean); close each card by the builder's one call (the guide's Derived/Test/ToyasCard.lean, 'card_holds'). Laid BY PROGRAM, IN A SANDBOX (cutbox-door.mjs). By AI agents, Wed Nov 11 2026. No macro, syntax, notation, axiom, sorry.
-/
import Derived.Test.YtaghiefokmapmaaDoorRows
import GoSem.ClaimSeven
namespace Go.Proofs.YtaghiefokmapmaaDoor
namespace Rows

/-- THE TIED CARD OF 'laws.FnBundleLines'. -/
def fnBundleLinesCard : Claim7 := { stood := { row := fnBundleLinesRow, standIns := [], harness := (true, "af58949c157b16f992fb5d31b8a6cf37f373b1e9eb7d7c2b5e2d1694e4212a14"), looks := false }, kinds := [], alts := [], laidByText := true, laidKinds := [.data, .data, .data], laidTests := true, laidLooks := .later }
def FnBundleLinesCardSaid : Prop := Claim7.holds Tryd.pinned (.plain (OpenSpec.ofChange fnBundleLinesSpec)) fnBundleLinesCard

/-- THE TIED CARD OF 'laws.FnReadBundle'. -/
def fnReadBundleCard : Claim7 := { stood := { row := fnReadBundleRow, standIns := [], harness := (true, "af58949c157b16f992fb5d31b8a6cf37f373b1e9eb7d7c2b5e2d1694e4212a14"), looks := false }, kinds := [], alts := [], laidByText := true, laidKinds := [.data, .data, .data], laidTests := true, laidLooks := .later }
def FnReadBundleCardSaid : Prop := Claim7.holds Tryd.pinned (.plain (OpenSpec.ofChange fnReadBundleSpec)) fnReadBundleCard

/-- THE TIED CARD OF 'laws.FnArchiveValid'. -/
def fnArchiveValidCard : Claim7 := { stood := { row := fnArchiveValidRow, standIns := [], harness := (true, "af58949c157b16f992fb5d31b8a6cf37f373b1e9eb7d7c2b5e2d1694e4212a14"), looks := false }, kinds := [], alts := [], laidByText := true, laidKinds := [.data, .data, .data], laidTests := true, laidLooks := .later }
def FnArchiveValidCardSaid : Prop := Claim7.holds Tryd.pinned (.plain (OpenSpec.ofChange fnArchiveValidSpec)) fnArchiveValidCard

/-- THE SECOND FORM's CARD OF 'laws.FnBundleLines'. -/
def fnBundleLinesUptoCard : Claim7 := { stood := { row := fnBundleLinesUptoRow, standIns := [], harness := (true, "af58949c157b16f992fb5d31b8a6cf37f373b1e9eb7d7c2b5e2d1694e4212a14"), looks := false }, kinds := [], alts := [], laidByText := true, laidKinds := [.data, .data, .data], laidTests := true, laidLooks := .later }
def FnBundleLinesUptoCardSaid : Prop := Claim7.holds Tryd.pinned (.plain (OpenSpec.upto fnBundleLinesSpec)) fnBundleLinesUptoCard

/-- THE SECOND FORM's CARD OF 'laws.FnReadBundle'. -/
def fnReadBundleUptoCard : Claim7 := { stood := { row := fnReadBundleUptoRow, standIns := [], harness := (true, "af58949c157b16f992fb5d31b8a6cf37f373b1e9eb7d7c2b5e2d1694e4212a14"), looks := false }, kinds := [], alts := [], laidByText := true, laidKinds := [.data, .data, .data], laidTests := true, laidLooks := .later }
def FnReadBundleUptoCardSaid : Prop := Claim7.holds Tryd.pinned (.plain (OpenSpec.upto fnReadBundleSpec)) fnReadBundleUptoCard

/-- THE SECOND FORM's CARD OF 'laws.FnArchiveValid'. -/
def fnArchiveValidUptoCard : Claim7 := { stood := { row := fnArchiveValidUptoRow, standIns := [], harness := (true, "af58949c157b16f992fb5d31b8a6cf37f373b1e9eb7d7c2b5e2d1694e4212a14"), looks := false }, kinds := [], alts := [], laidByText := true, laidKinds := [.data, .data, .data], laidTests := true, laidLooks := .later }
def FnArchiveValidUptoCardSaid : Prop := Claim7.holds Tryd.pinned (.plain (OpenSpec.upto fnArchiveValidSpec)) fnArchiveValidUptoCard
end Rows
end Go.Proofs.YtaghiefokmapmaaDoor
