/-
  DERIVED. GIVEN WITH THE SEED: THE CARDS: each row of YtaghiefokmapmaaGreatDoorRows.lean that lists a variable, with what it lists TIED to the program's text (the seventh form; the later family's looks); each row that meets fmt, with fmt's text TOLD by the authors' own Lean function (tested against real Go, not proved from fmt's source: count such statements apart). THE CARD IS WHAT COUNTS. Prove the row's statement (the work); the ties are given (YtaghiefokmapmaaGreatDoorTie.lean); close each card by the builder's one call (the guide's Derived/Test/ToyasCard.lean, 'card_holds'). Laid BY PROGRAM, IN A SANDBOX (cutbox-door.mjs). By AI agents, Wed Nov 11 2026. No macro, syntax, notation, axiom, sorry.
-/
import Derived.Test.YtaghiefokmapmaaGreatDoorRows
import GoSem.ClaimSeven
namespace Go.Proofs.YtaghiefokmapmaaGreatDoor
namespace Rows

/-- THE TIED CARD OF 'laws.FnExactOverQuotas'. -/
def fnExactOverQuotasCard : Claim7 := { stood := { row := fnExactOverQuotasRow, standIns := [], harness := (true, "d58b70d4797ed2def65e6c90785096ad3ddd9f01ba568126aaf33e8f41bb6163"), looks := false }, kinds := [], alts := [], laidByText := true, laidKinds := [.data, .data, .data, .data, .pinned], laidTests := true, laidLooks := .later }
def FnExactOverQuotasCardSaid : Prop := Claim7.holds Tryz.pinned (.plain (OpenSpec.ofChange fnExactOverQuotasSpec)) fnExactOverQuotasCard

/-- THE TIED CARD OF 'laws.FnExactArchiveLine'. -/
def fnExactArchiveLineCard : Claim7 := { stood := { row := fnExactArchiveLineRow, standIns := [], harness := (true, "d58b70d4797ed2def65e6c90785096ad3ddd9f01ba568126aaf33e8f41bb6163"), looks := false }, kinds := [], alts := [], laidByText := true, laidKinds := [.data, .data, .data, .data, .pinned], laidTests := true, laidLooks := .later }
def FnExactArchiveLineCardSaid : Prop := Claim7.holds Tryz.pinned (.plain (OpenSpec.ofChange fnExactArchiveLineSpec)) fnExactArchiveLineCard

/-- THE TIED CARD OF 'laws.FnExactArchiveLines'. -/
def fnExactArchiveLinesCard : Claim7 := { stood := { row := fnExactArchiveLinesRow, standIns := [], harness := (true, "d58b70d4797ed2def65e6c90785096ad3ddd9f01ba568126aaf33e8f41bb6163"), looks := false }, kinds := [], alts := [], laidByText := true, laidKinds := [.data, .data, .data, .data, .pinned], laidTests := true, laidLooks := .later }
def FnExactArchiveLinesCardSaid : Prop := Claim7.holds Tryz.pinned (.plain (OpenSpec.ofChange fnExactArchiveLinesSpec)) fnExactArchiveLinesCard

/-- THE TIED CARD OF 'laws.FnNewArchive'. -/
def fnNewArchiveCard : Claim7 := { stood := { row := fnNewArchiveRow, standIns := [], harness := (true, "d58b70d4797ed2def65e6c90785096ad3ddd9f01ba568126aaf33e8f41bb6163"), looks := false }, kinds := [], alts := [], laidByText := true, laidKinds := [.data, .data, .data], laidTests := true, laidLooks := .later }
def FnNewArchiveCardSaid : Prop := Claim7.holds Tryz.pinned (.plain (OpenSpec.ofChange fnNewArchiveSpec)) fnNewArchiveCard

/-- THE TIED CARD OF 'laws.FnUsedBelow'. -/
def fnUsedBelowCard : Claim7 := { stood := { row := fnUsedBelowRow, standIns := [], harness := (true, "d58b70d4797ed2def65e6c90785096ad3ddd9f01ba568126aaf33e8f41bb6163"), looks := false }, kinds := [], alts := [], laidByText := true, laidKinds := [.data, .data, .data, .data, .pinned], laidTests := true, laidLooks := .later }
def FnUsedBelowCardSaid : Prop := Claim7.holds Tryz.pinned (.plain (OpenSpec.ofChange fnUsedBelowSpec)) fnUsedBelowCard

/-- THE TIED CARD OF 'laws.FnFilesWith'. -/
def fnFilesWithCard : Claim7 := { stood := { row := fnFilesWithRow, standIns := [], harness := (true, "d58b70d4797ed2def65e6c90785096ad3ddd9f01ba568126aaf33e8f41bb6163"), looks := false }, kinds := [], alts := [], laidByText := true, laidKinds := [.data, .data, .data, .data, .pinned], laidTests := true, laidLooks := .later }
def FnFilesWithCardSaid : Prop := Claim7.holds Tryz.pinned (.plain (OpenSpec.ofChange fnFilesWithSpec)) fnFilesWithCard

/-- THE TIED CARD OF 'laws.FnOverQuotas'. -/
def fnOverQuotasCard : Claim7 := { stood := { row := fnOverQuotasRow, standIns := [], harness := (true, "d58b70d4797ed2def65e6c90785096ad3ddd9f01ba568126aaf33e8f41bb6163"), looks := false }, kinds := [], alts := [], laidByText := true, laidKinds := [.data, .data, .data, .data, .pinned], laidTests := true, laidLooks := .later }
def FnOverQuotasCardSaid : Prop := Claim7.holds Tryz.pinned (.plain (OpenSpec.ofChange fnOverQuotasSpec)) fnOverQuotasCard

/-- THE TIED CARD OF 'laws.FnTotalSize'. -/
def fnTotalSizeCard : Claim7 := { stood := { row := fnTotalSizeRow, standIns := [], harness := (true, "d58b70d4797ed2def65e6c90785096ad3ddd9f01ba568126aaf33e8f41bb6163"), looks := false }, kinds := [], alts := [], laidByText := true, laidKinds := [.data, .data, .data, .data, .pinned], laidTests := true, laidLooks := .later }
def FnTotalSizeCardSaid : Prop := Claim7.holds Tryz.pinned (.plain (OpenSpec.ofChange fnTotalSizeSpec)) fnTotalSizeCard

/-- THE TIED CARD OF 'laws.FnVersionsStay'. -/
def fnVersionsStayCard : Claim7 := { stood := { row := fnVersionsStayRow, standIns := [], harness := (true, "d58b70d4797ed2def65e6c90785096ad3ddd9f01ba568126aaf33e8f41bb6163"), looks := false }, kinds := [], alts := [], laidByText := true, laidKinds := [.data, .data, .data, .data, .pinned], laidTests := true, laidLooks := .later }
def FnVersionsStayCardSaid : Prop := Claim7.holds Tryz.pinned (.plain (OpenSpec.ofChange fnVersionsStaySpec)) fnVersionsStayCard

/-- THE TIED CARD OF 'laws.FnReadBack'. -/
def fnReadBackCard : Claim7 := { stood := { row := fnReadBackRow, standIns := [], harness := (true, "d58b70d4797ed2def65e6c90785096ad3ddd9f01ba568126aaf33e8f41bb6163"), looks := false }, kinds := [], alts := [], laidByText := true, laidKinds := [.data, .data, .data, .data, .pinned], laidTests := true, laidLooks := .later }
def FnReadBackCardSaid : Prop := Claim7.holds Tryz.pinned (.plain (OpenSpec.ofChange fnReadBackSpec)) fnReadBackCard

/-- THE TIED CARD OF 'laws.FnArchiveLine'. -/
def fnArchiveLineCard : Claim7 := { stood := { row := fnArchiveLineRow, standIns := [], harness := (true, "d58b70d4797ed2def65e6c90785096ad3ddd9f01ba568126aaf33e8f41bb6163"), looks := false }, kinds := [], alts := [], laidByText := true, laidKinds := [.data, .data, .data, .data, .pinned], laidTests := true, laidLooks := .later }
def FnArchiveLineCardSaid : Prop := Claim7.holds Tryz.pinned (.plain (OpenSpec.ofChange fnArchiveLineSpec)) fnArchiveLineCard

/-- THE TIED CARD OF 'laws.FnArchiveLines'. -/
def fnArchiveLinesCard : Claim7 := { stood := { row := fnArchiveLinesRow, standIns := [], harness := (true, "d58b70d4797ed2def65e6c90785096ad3ddd9f01ba568126aaf33e8f41bb6163"), looks := false }, kinds := [], alts := [], laidByText := true, laidKinds := [.data, .data, .data, .data, .pinned], laidTests := true, laidLooks := .later }
def FnArchiveLinesCardSaid : Prop := Claim7.holds Tryz.pinned (.plain (OpenSpec.ofChange fnArchiveLinesSpec)) fnArchiveLinesCard

/-- THE SECOND FORM's CARD OF 'laws.FnExactOverQuotas'. -/
def fnExactOverQuotasUptoCard : Claim7 := { stood := { row := fnExactOverQuotasUptoRow, standIns := [], harness := (true, "d58b70d4797ed2def65e6c90785096ad3ddd9f01ba568126aaf33e8f41bb6163"), looks := false }, kinds := [], alts := [], laidByText := true, laidKinds := [.data, .data, .data, .data, .pinned], laidTests := true, laidLooks := .later }
def FnExactOverQuotasUptoCardSaid : Prop := Claim7.holds Tryz.pinned (.plain (OpenSpec.upto fnExactOverQuotasSpec)) fnExactOverQuotasUptoCard

/-- THE SECOND FORM's CARD OF 'laws.FnExactArchiveLine'. -/
def fnExactArchiveLineUptoCard : Claim7 := { stood := { row := fnExactArchiveLineUptoRow, standIns := [], harness := (true, "d58b70d4797ed2def65e6c90785096ad3ddd9f01ba568126aaf33e8f41bb6163"), looks := false }, kinds := [], alts := [], laidByText := true, laidKinds := [.data, .data, .data, .data, .pinned], laidTests := true, laidLooks := .later }
def FnExactArchiveLineUptoCardSaid : Prop := Claim7.holds Tryz.pinned (.plain (OpenSpec.upto fnExactArchiveLineSpec)) fnExactArchiveLineUptoCard

/-- THE SECOND FORM's CARD OF 'laws.FnExactArchiveLines'. -/
def fnExactArchiveLinesUptoCard : Claim7 := { stood := { row := fnExactArchiveLinesUptoRow, standIns := [], harness := (true, "d58b70d4797ed2def65e6c90785096ad3ddd9f01ba568126aaf33e8f41bb6163"), looks := false }, kinds := [], alts := [], laidByText := true, laidKinds := [.data, .data, .data, .data, .pinned], laidTests := true, laidLooks := .later }
def FnExactArchiveLinesUptoCardSaid : Prop := Claim7.holds Tryz.pinned (.plain (OpenSpec.upto fnExactArchiveLinesSpec)) fnExactArchiveLinesUptoCard

/-- THE SECOND FORM's CARD OF 'laws.FnNewArchive'. -/
def fnNewArchiveUptoCard : Claim7 := { stood := { row := fnNewArchiveUptoRow, standIns := [], harness := (true, "d58b70d4797ed2def65e6c90785096ad3ddd9f01ba568126aaf33e8f41bb6163"), looks := false }, kinds := [], alts := [], laidByText := true, laidKinds := [.data, .data, .data], laidTests := true, laidLooks := .later }
def FnNewArchiveUptoCardSaid : Prop := Claim7.holds Tryz.pinned (.plain (OpenSpec.upto fnNewArchiveSpec)) fnNewArchiveUptoCard

/-- THE SECOND FORM's CARD OF 'laws.FnUsedBelow'. -/
def fnUsedBelowUptoCard : Claim7 := { stood := { row := fnUsedBelowUptoRow, standIns := [], harness := (true, "d58b70d4797ed2def65e6c90785096ad3ddd9f01ba568126aaf33e8f41bb6163"), looks := false }, kinds := [], alts := [], laidByText := true, laidKinds := [.data, .data, .data, .data, .pinned], laidTests := true, laidLooks := .later }
def FnUsedBelowUptoCardSaid : Prop := Claim7.holds Tryz.pinned (.plain (OpenSpec.upto fnUsedBelowSpec)) fnUsedBelowUptoCard

/-- THE SECOND FORM's CARD OF 'laws.FnFilesWith'. -/
def fnFilesWithUptoCard : Claim7 := { stood := { row := fnFilesWithUptoRow, standIns := [], harness := (true, "d58b70d4797ed2def65e6c90785096ad3ddd9f01ba568126aaf33e8f41bb6163"), looks := false }, kinds := [], alts := [], laidByText := true, laidKinds := [.data, .data, .data, .data, .pinned], laidTests := true, laidLooks := .later }
def FnFilesWithUptoCardSaid : Prop := Claim7.holds Tryz.pinned (.plain (OpenSpec.upto fnFilesWithSpec)) fnFilesWithUptoCard

/-- THE SECOND FORM's CARD OF 'laws.FnOverQuotas'. -/
def fnOverQuotasUptoCard : Claim7 := { stood := { row := fnOverQuotasUptoRow, standIns := [], harness := (true, "d58b70d4797ed2def65e6c90785096ad3ddd9f01ba568126aaf33e8f41bb6163"), looks := false }, kinds := [], alts := [], laidByText := true, laidKinds := [.data, .data, .data, .data, .pinned], laidTests := true, laidLooks := .later }
def FnOverQuotasUptoCardSaid : Prop := Claim7.holds Tryz.pinned (.plain (OpenSpec.upto fnOverQuotasSpec)) fnOverQuotasUptoCard

/-- THE SECOND FORM's CARD OF 'laws.FnTotalSize'. -/
def fnTotalSizeUptoCard : Claim7 := { stood := { row := fnTotalSizeUptoRow, standIns := [], harness := (true, "d58b70d4797ed2def65e6c90785096ad3ddd9f01ba568126aaf33e8f41bb6163"), looks := false }, kinds := [], alts := [], laidByText := true, laidKinds := [.data, .data, .data, .data, .pinned], laidTests := true, laidLooks := .later }
def FnTotalSizeUptoCardSaid : Prop := Claim7.holds Tryz.pinned (.plain (OpenSpec.upto fnTotalSizeSpec)) fnTotalSizeUptoCard

/-- THE SECOND FORM's CARD OF 'laws.FnVersionsStay'. -/
def fnVersionsStayUptoCard : Claim7 := { stood := { row := fnVersionsStayUptoRow, standIns := [], harness := (true, "d58b70d4797ed2def65e6c90785096ad3ddd9f01ba568126aaf33e8f41bb6163"), looks := false }, kinds := [], alts := [], laidByText := true, laidKinds := [.data, .data, .data, .data, .pinned], laidTests := true, laidLooks := .later }
def FnVersionsStayUptoCardSaid : Prop := Claim7.holds Tryz.pinned (.plain (OpenSpec.upto fnVersionsStaySpec)) fnVersionsStayUptoCard

/-- THE SECOND FORM's CARD OF 'laws.FnReadBack'. -/
def fnReadBackUptoCard : Claim7 := { stood := { row := fnReadBackUptoRow, standIns := [], harness := (true, "d58b70d4797ed2def65e6c90785096ad3ddd9f01ba568126aaf33e8f41bb6163"), looks := false }, kinds := [], alts := [], laidByText := true, laidKinds := [.data, .data, .data, .data, .pinned], laidTests := true, laidLooks := .later }
def FnReadBackUptoCardSaid : Prop := Claim7.holds Tryz.pinned (.plain (OpenSpec.upto fnReadBackSpec)) fnReadBackUptoCard

/-- THE SECOND FORM's CARD OF 'laws.FnArchiveLine'. -/
def fnArchiveLineUptoCard : Claim7 := { stood := { row := fnArchiveLineUptoRow, standIns := [], harness := (true, "d58b70d4797ed2def65e6c90785096ad3ddd9f01ba568126aaf33e8f41bb6163"), looks := false }, kinds := [], alts := [], laidByText := true, laidKinds := [.data, .data, .data, .data, .pinned], laidTests := true, laidLooks := .later }
def FnArchiveLineUptoCardSaid : Prop := Claim7.holds Tryz.pinned (.plain (OpenSpec.upto fnArchiveLineSpec)) fnArchiveLineUptoCard

/-- THE SECOND FORM's CARD OF 'laws.FnArchiveLines'. -/
def fnArchiveLinesUptoCard : Claim7 := { stood := { row := fnArchiveLinesUptoRow, standIns := [], harness := (true, "d58b70d4797ed2def65e6c90785096ad3ddd9f01ba568126aaf33e8f41bb6163"), looks := false }, kinds := [], alts := [], laidByText := true, laidKinds := [.data, .data, .data, .data, .pinned], laidTests := true, laidLooks := .later }
def FnArchiveLinesUptoCardSaid : Prop := Claim7.holds Tryz.pinned (.plain (OpenSpec.upto fnArchiveLinesSpec)) fnArchiveLinesUptoCard
end Rows
end Go.Proofs.YtaghiefokmapmaaGreatDoor
