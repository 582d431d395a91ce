/-
  DERIVED. GIVEN WITH THE SEED: THE CARDS: each row of YtedcgbmdfmgcgaaGreatDoorRows.lean that lists a variable, with what it lists TIED to the program's text (the seventh form; the later family's looks); each row that meets fmt, with fmt's text TOLD by the authors' own Lean function (tested against real Go, not proved from fmt's source: count such statements apart). THE CARD IS WHAT COUNTS. Prove the row's statement (the work); the ties are given (YtedcgbmdfmgcgaaGreatDoorTie.lean); close each card by the builder's one call (the guide's Derived/Test/ToyasCard.lean, 'card_holds'). Laid BY PROGRAM, IN A SANDBOX (cutbox-door.mjs). By AI agents, Wed Nov 11 2026. No macro, syntax, notation, axiom, sorry.
-/
import Derived.Test.YtedcgbmdfmgcgaaGreatDoorRows
import GoSem.ClaimSeven
namespace Go.Proofs.YtedcgbmdfmgcgaaGreatDoor
namespace Rows

/-- THE TIED CARD OF 'laws.FnNewArchive'. -/
def fnNewArchiveCard : Claim7 := { stood := { row := fnNewArchiveRow, standIns := [], harness := (true, "6bc37c519655a93347efe519fe3bf2d9a181f0b403d736dd0482159ee1c814bd"), looks := false }, kinds := [], alts := [], laidByText := true, laidKinds := [.data, .data, .data], laidTests := true, laidLooks := .later }
def FnNewArchiveCardSaid : Prop := Claim7.holds Tryz.pinned (.plain (OpenSpec.ofChange fnNewArchiveSpec)) fnNewArchiveCard

/-- THE TIED CARD OF 'laws.FnUsedBelow'. -/
def fnUsedBelowCard : Claim7 := { stood := { row := fnUsedBelowRow, standIns := [], harness := (true, "6bc37c519655a93347efe519fe3bf2d9a181f0b403d736dd0482159ee1c814bd"), looks := false }, kinds := [], alts := [], laidByText := true, laidKinds := [.data, .data, .data, .data, .pinned], laidTests := true, laidLooks := .later }
def FnUsedBelowCardSaid : Prop := Claim7.holds Tryz.pinned (.plain (OpenSpec.ofChange fnUsedBelowSpec)) fnUsedBelowCard

/-- THE TIED CARD OF 'laws.FnFilesWith'. -/
def fnFilesWithCard : Claim7 := { stood := { row := fnFilesWithRow, standIns := [], harness := (true, "6bc37c519655a93347efe519fe3bf2d9a181f0b403d736dd0482159ee1c814bd"), looks := false }, kinds := [], alts := [], laidByText := true, laidKinds := [.data, .data, .data, .data, .pinned], laidTests := true, laidLooks := .later }
def FnFilesWithCardSaid : Prop := Claim7.holds Tryz.pinned (.plain (OpenSpec.ofChange fnFilesWithSpec)) fnFilesWithCard

/-- THE TIED CARD OF 'laws.FnOverQuotas'. -/
def fnOverQuotasCard : Claim7 := { stood := { row := fnOverQuotasRow, standIns := [], harness := (true, "6bc37c519655a93347efe519fe3bf2d9a181f0b403d736dd0482159ee1c814bd"), looks := false }, kinds := [], alts := [], laidByText := true, laidKinds := [.data, .data, .data, .data, .pinned], laidTests := true, laidLooks := .later }
def FnOverQuotasCardSaid : Prop := Claim7.holds Tryz.pinned (.plain (OpenSpec.ofChange fnOverQuotasSpec)) fnOverQuotasCard

/-- THE TIED CARD OF 'laws.FnTotalSize'. -/
def fnTotalSizeCard : Claim7 := { stood := { row := fnTotalSizeRow, standIns := [], harness := (true, "6bc37c519655a93347efe519fe3bf2d9a181f0b403d736dd0482159ee1c814bd"), looks := false }, kinds := [], alts := [], laidByText := true, laidKinds := [.data, .data, .data, .data, .pinned], laidTests := true, laidLooks := .later }
def FnTotalSizeCardSaid : Prop := Claim7.holds Tryz.pinned (.plain (OpenSpec.ofChange fnTotalSizeSpec)) fnTotalSizeCard

/-- THE SECOND FORM's CARD OF 'laws.FnNewArchive'. -/
def fnNewArchiveUptoCard : Claim7 := { stood := { row := fnNewArchiveUptoRow, standIns := [], harness := (true, "6bc37c519655a93347efe519fe3bf2d9a181f0b403d736dd0482159ee1c814bd"), looks := false }, kinds := [], alts := [], laidByText := true, laidKinds := [.data, .data, .data], laidTests := true, laidLooks := .later }
def FnNewArchiveUptoCardSaid : Prop := Claim7.holds Tryz.pinned (.plain (OpenSpec.upto fnNewArchiveSpec)) fnNewArchiveUptoCard

/-- THE SECOND FORM's CARD OF 'laws.FnUsedBelow'. -/
def fnUsedBelowUptoCard : Claim7 := { stood := { row := fnUsedBelowUptoRow, standIns := [], harness := (true, "6bc37c519655a93347efe519fe3bf2d9a181f0b403d736dd0482159ee1c814bd"), looks := false }, kinds := [], alts := [], laidByText := true, laidKinds := [.data, .data, .data, .data, .pinned], laidTests := true, laidLooks := .later }
def FnUsedBelowUptoCardSaid : Prop := Claim7.holds Tryz.pinned (.plain (OpenSpec.upto fnUsedBelowSpec)) fnUsedBelowUptoCard

/-- THE SECOND FORM's CARD OF 'laws.FnFilesWith'. -/
def fnFilesWithUptoCard : Claim7 := { stood := { row := fnFilesWithUptoRow, standIns := [], harness := (true, "6bc37c519655a93347efe519fe3bf2d9a181f0b403d736dd0482159ee1c814bd"), looks := false }, kinds := [], alts := [], laidByText := true, laidKinds := [.data, .data, .data, .data, .pinned], laidTests := true, laidLooks := .later }
def FnFilesWithUptoCardSaid : Prop := Claim7.holds Tryz.pinned (.plain (OpenSpec.upto fnFilesWithSpec)) fnFilesWithUptoCard

/-- THE SECOND FORM's CARD OF 'laws.FnOverQuotas'. -/
def fnOverQuotasUptoCard : Claim7 := { stood := { row := fnOverQuotasUptoRow, standIns := [], harness := (true, "6bc37c519655a93347efe519fe3bf2d9a181f0b403d736dd0482159ee1c814bd"), looks := false }, kinds := [], alts := [], laidByText := true, laidKinds := [.data, .data, .data, .data, .pinned], laidTests := true, laidLooks := .later }
def FnOverQuotasUptoCardSaid : Prop := Claim7.holds Tryz.pinned (.plain (OpenSpec.upto fnOverQuotasSpec)) fnOverQuotasUptoCard

/-- THE SECOND FORM's CARD OF 'laws.FnTotalSize'. -/
def fnTotalSizeUptoCard : Claim7 := { stood := { row := fnTotalSizeUptoRow, standIns := [], harness := (true, "6bc37c519655a93347efe519fe3bf2d9a181f0b403d736dd0482159ee1c814bd"), looks := false }, kinds := [], alts := [], laidByText := true, laidKinds := [.data, .data, .data, .data, .pinned], laidTests := true, laidLooks := .later }
def FnTotalSizeUptoCardSaid : Prop := Claim7.holds Tryz.pinned (.plain (OpenSpec.upto fnTotalSizeSpec)) fnTotalSizeUptoCard
end Rows
end Go.Proofs.YtedcgbmdfmgcgaaGreatDoor
