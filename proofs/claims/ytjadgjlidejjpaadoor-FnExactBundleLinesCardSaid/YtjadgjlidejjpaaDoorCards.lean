/-
  DERIVED. GIVEN WITH THE SEED: THE CARDS: each row of YtjadgjlidejjpaaDoorRows.lean that lists a variable, with what it lists TIED to the program's text (the seventh form; the later family's looks); each row that meets fmt, with fmt's text TOLD by the authors' own Lean function (tested against real Go, not proved from fmt's source: count such statements apart). THE CARD IS WHAT COUNTS. Prove the row's statement (the work); the ties are given (YtjadgjlidejjpaaDoorTie.lean); close each card by the builder's one call (the guide's Derived/Test/ToyasCard.lean, 'card_holds'). Laid BY PROGRAM, IN A SANDBOX (cutbox-door.mjs). By AI agents, Wed Nov 11 2026. No macro, syntax, notation, axiom, sorry.
-/
import Derived.Test.YtjadgjlidejjpaaDoorRows
import GoSem.ClaimSeven
namespace Go.Proofs.YtjadgjlidejjpaaDoor
namespace Rows

/-- THE TIED CARD OF 'laws.FnExactBundleLines'. -/
def fnExactBundleLinesCard : Claim7 := { stood := { row := fnExactBundleLinesRow, standIns := [], harness := (true, "cfd10b88a1665c0f51ff0b017bf77d525b2cfab96b91f9502bbfd7fdd88e90ae"), looks := false }, kinds := [], alts := [], laidByText := true, laidKinds := [.data, .data, .data], laidTests := true, laidLooks := .later }
def FnExactBundleLinesCardSaid : Prop := Claim7.holds Tryd.pinned (.plain (OpenSpec.ofChange fnExactBundleLinesSpec)) fnExactBundleLinesCard

/-- THE SECOND FORM's CARD OF 'laws.FnExactBundleLines'. -/
def fnExactBundleLinesUptoCard : Claim7 := { stood := { row := fnExactBundleLinesUptoRow, standIns := [], harness := (true, "cfd10b88a1665c0f51ff0b017bf77d525b2cfab96b91f9502bbfd7fdd88e90ae"), looks := false }, kinds := [], alts := [], laidByText := true, laidKinds := [.data, .data, .data], laidTests := true, laidLooks := .later }
def FnExactBundleLinesUptoCardSaid : Prop := Claim7.holds Tryd.pinned (.plain (OpenSpec.upto fnExactBundleLinesSpec)) fnExactBundleLinesUptoCard
end Rows
end Go.Proofs.YtjadgjlidejjpaaDoor
