/-
  DERIVED. GIVEN WITH THE SEED: THE CARDS: each row of YtaeaccakkielmaaGreatDoorRows.lean that lists a variable, with what it lists TIED to the program's text (the seventh form; the later family's looks); each row that meets fmt, with fmt's text TOLD by the authors' own Lean function (tested against real Go, not proved from fmt's source: count such statements apart). THE CARD IS WHAT COUNTS. Prove the row's statement (the work); the ties are given (YtaeaccakkielmaaGreatDoorTie.lean); close each card by the builder's one call (the guide's Derived/Test/ToyasCard.lean, 'card_holds'). Laid BY PROGRAM, IN A SANDBOX (cutbox-door.mjs). By AI agents, Wed Nov 11 2026. No macro, syntax, notation, axiom, sorry.
-/
import Derived.Test.YtaeaccakkielmaaGreatDoorRows
import GoSem.ClaimSeven
namespace Go.Proofs.YtaeaccakkielmaaGreatDoor
namespace Rows

/-- THE TIED CARD OF 'laws.FnExactUsedBelow'. -/
def fnExactUsedBelowCard : Claim7 := { stood := { row := fnExactUsedBelowRow, standIns := [], harness := (true, "69d2b31eb98413f7d48c1c8d7ad666bc412c296ac39549d41095656df788369f"), looks := false }, kinds := [], alts := [], laidByText := true, laidKinds := [.data, .data, .data, .data, .pinned], laidTests := true, laidLooks := .later }
def FnExactUsedBelowCardSaid : Prop := Claim7.holds Tryz.pinned (.plain (OpenSpec.ofChange fnExactUsedBelowSpec)) fnExactUsedBelowCard

/-- THE TIED CARD OF 'laws.FnExactFilesWith'. -/
def fnExactFilesWithCard : Claim7 := { stood := { row := fnExactFilesWithRow, standIns := [], harness := (true, "69d2b31eb98413f7d48c1c8d7ad666bc412c296ac39549d41095656df788369f"), looks := false }, kinds := [], alts := [], laidByText := true, laidKinds := [.data, .data, .data, .data, .pinned], laidTests := true, laidLooks := .later }
def FnExactFilesWithCardSaid : Prop := Claim7.holds Tryz.pinned (.plain (OpenSpec.ofChange fnExactFilesWithSpec)) fnExactFilesWithCard

/-- THE TIED CARD OF 'laws.FnExactOverQuotas'. -/
def fnExactOverQuotasCard : Claim7 := { stood := { row := fnExactOverQuotasRow, standIns := [], harness := (true, "69d2b31eb98413f7d48c1c8d7ad666bc412c296ac39549d41095656df788369f"), looks := false }, kinds := [], alts := [], laidByText := true, laidKinds := [.data, .data, .data, .data, .pinned], laidTests := true, laidLooks := .later }
def FnExactOverQuotasCardSaid : Prop := Claim7.holds Tryz.pinned (.plain (OpenSpec.ofChange fnExactOverQuotasSpec)) fnExactOverQuotasCard

/-- THE SECOND FORM's CARD OF 'laws.FnExactUsedBelow'. -/
def fnExactUsedBelowUptoCard : Claim7 := { stood := { row := fnExactUsedBelowUptoRow, standIns := [], harness := (true, "69d2b31eb98413f7d48c1c8d7ad666bc412c296ac39549d41095656df788369f"), looks := false }, kinds := [], alts := [], laidByText := true, laidKinds := [.data, .data, .data, .data, .pinned], laidTests := true, laidLooks := .later }
def FnExactUsedBelowUptoCardSaid : Prop := Claim7.holds Tryz.pinned (.plain (OpenSpec.upto fnExactUsedBelowSpec)) fnExactUsedBelowUptoCard

/-- THE SECOND FORM's CARD OF 'laws.FnExactFilesWith'. -/
def fnExactFilesWithUptoCard : Claim7 := { stood := { row := fnExactFilesWithUptoRow, standIns := [], harness := (true, "69d2b31eb98413f7d48c1c8d7ad666bc412c296ac39549d41095656df788369f"), looks := false }, kinds := [], alts := [], laidByText := true, laidKinds := [.data, .data, .data, .data, .pinned], laidTests := true, laidLooks := .later }
def FnExactFilesWithUptoCardSaid : Prop := Claim7.holds Tryz.pinned (.plain (OpenSpec.upto fnExactFilesWithSpec)) fnExactFilesWithUptoCard

/-- THE SECOND FORM's CARD OF 'laws.FnExactOverQuotas'. -/
def fnExactOverQuotasUptoCard : Claim7 := { stood := { row := fnExactOverQuotasUptoRow, standIns := [], harness := (true, "69d2b31eb98413f7d48c1c8d7ad666bc412c296ac39549d41095656df788369f"), looks := false }, kinds := [], alts := [], laidByText := true, laidKinds := [.data, .data, .data, .data, .pinned], laidTests := true, laidLooks := .later }
def FnExactOverQuotasUptoCardSaid : Prop := Claim7.holds Tryz.pinned (.plain (OpenSpec.upto fnExactOverQuotasSpec)) fnExactOverQuotasUptoCard
end Rows
end Go.Proofs.YtaeaccakkielmaaGreatDoor
