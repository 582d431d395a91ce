/-
  DERIVED. GIVEN WITH THE SEED: THE CARDS: each row of YtkglfmgmmnfmbaaDoorRows.lean that lists a variable, with what it lists TIED to the program's text (the seventh form; the later family's looks); each row that meets fmt, with fmt's text TOLD by the authors' own Lean function (tested against real Go, not proved from fmt's source: count such statements apart). THE CARD IS WHAT COUNTS. Prove the row's statement (the work); the ties are given (YtkglfmgmmnfmbaaDoorTie.lean); close each card by the builder's one call (the guide's Derived/Test/ToyasCard.lean, 'card_holds'). Laid BY PROGRAM, IN A SANDBOX (cutbox-door.mjs). By AI agents, Wed Nov 11 2026. No macro, syntax, notation, axiom, sorry.
-/
import Derived.Test.YtkglfmgmmnfmbaaDoorRows
import GoSem.ClaimSeven
namespace Go.Proofs.YtkglfmgmmnfmbaaDoor
namespace Rows

/-- THE TIED CARD OF 'laws.FnArchiveValid'. -/
def fnArchiveValidCard : Claim7 := { stood := { row := fnArchiveValidRow, standIns := [], harness := (true, "8640a90bdaf6584407fc50a5f47d1ce1856c9a4235b8cae0d5906ec3164db8f5"), looks := false }, kinds := [], alts := [], laidByText := true, laidKinds := [.data, .data, .data], laidTests := true, laidLooks := .later }
def FnArchiveValidCardSaid : Prop := Claim7.holds Tryd.pinned (.plain (OpenSpec.ofChange fnArchiveValidSpec)) fnArchiveValidCard

/-- THE TIED CARD OF 'laws.FnReadBundle'. -/
def fnReadBundleCard : Claim7 := { stood := { row := fnReadBundleRow, standIns := [], harness := (true, "8640a90bdaf6584407fc50a5f47d1ce1856c9a4235b8cae0d5906ec3164db8f5"), looks := false }, kinds := [], alts := [], laidByText := true, laidKinds := [.data, .data, .data], laidTests := true, laidLooks := .later }
def FnReadBundleCardSaid : Prop := Claim7.holds Tryd.pinned (.plain (OpenSpec.ofChange fnReadBundleSpec)) fnReadBundleCard

/-- THE SECOND FORM's CARD OF 'laws.FnArchiveValid'. -/
def fnArchiveValidUptoCard : Claim7 := { stood := { row := fnArchiveValidUptoRow, standIns := [], harness := (true, "8640a90bdaf6584407fc50a5f47d1ce1856c9a4235b8cae0d5906ec3164db8f5"), looks := false }, kinds := [], alts := [], laidByText := true, laidKinds := [.data, .data, .data], laidTests := true, laidLooks := .later }
def FnArchiveValidUptoCardSaid : Prop := Claim7.holds Tryd.pinned (.plain (OpenSpec.upto fnArchiveValidSpec)) fnArchiveValidUptoCard

/-- THE SECOND FORM's CARD OF 'laws.FnReadBundle'. -/
def fnReadBundleUptoCard : Claim7 := { stood := { row := fnReadBundleUptoRow, standIns := [], harness := (true, "8640a90bdaf6584407fc50a5f47d1ce1856c9a4235b8cae0d5906ec3164db8f5"), looks := false }, kinds := [], alts := [], laidByText := true, laidKinds := [.data, .data, .data], laidTests := true, laidLooks := .later }
def FnReadBundleUptoCardSaid : Prop := Claim7.holds Tryd.pinned (.plain (OpenSpec.upto fnReadBundleSpec)) fnReadBundleUptoCard
end Rows
end Go.Proofs.YtkglfmgmmnfmbaaDoor
