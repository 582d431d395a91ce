/-
  DERIVED. GIVEN WITH THE SEED: THE CARDS: each row of YtkglfmgmmnfmbaaGreatDoorRows.lean that lists a variable, with what it lists TIED to the program's text (the seventh form; the later family's looks); each row that meets fmt, with fmt's text TOLD by the authors' own Lean function (tested against real Go, not proved from fmt's source: count such statements apart). THE CARD IS WHAT COUNTS. Prove the row's statement (the work); the ties are given (YtkglfmgmmnfmbaaGreatDoorTie.lean); close each card by the builder's one call (the guide's Derived/Test/ToyasCard.lean, 'card_holds'). Laid BY PROGRAM, IN A SANDBOX (cutbox-door.mjs). By AI agents, Wed Nov 11 2026. No macro, syntax, notation, axiom, sorry.
-/
import Derived.Test.YtkglfmgmmnfmbaaGreatDoorRows
import GoSem.ClaimSeven
namespace Go.Proofs.YtkglfmgmmnfmbaaGreatDoor
namespace Rows

/-- THE TIED CARD OF 'laws.FnExactArchiveLine'. -/
def fnExactArchiveLineCard : Claim7 := { stood := { row := fnExactArchiveLineRow, standIns := [], harness := (true, "f99e0c4a90d9d73a02d14a921ffbbb147cd2d8aaf84c75a4dcca07134928c65d"), looks := false }, kinds := [], alts := [], laidByText := true, laidKinds := [.data, .data, .data, .data, .pinned], laidTests := true, laidLooks := .later }
def FnExactArchiveLineCardSaid : Prop := Claim7.holds Tryz.pinned (.plain (OpenSpec.ofChange fnExactArchiveLineSpec)) fnExactArchiveLineCard

/-- THE TIED CARD OF 'laws.FnExactArchiveLines'. -/
def fnExactArchiveLinesCard : Claim7 := { stood := { row := fnExactArchiveLinesRow, standIns := [], harness := (true, "f99e0c4a90d9d73a02d14a921ffbbb147cd2d8aaf84c75a4dcca07134928c65d"), looks := false }, kinds := [], alts := [], laidByText := true, laidKinds := [.data, .data, .data, .data, .pinned], laidTests := true, laidLooks := .later }
def FnExactArchiveLinesCardSaid : Prop := Claim7.holds Tryz.pinned (.plain (OpenSpec.ofChange fnExactArchiveLinesSpec)) fnExactArchiveLinesCard

/-- THE TIED CARD OF 'laws.FnVersionsStay'. -/
def fnVersionsStayCard : Claim7 := { stood := { row := fnVersionsStayRow, standIns := [], harness := (true, "f99e0c4a90d9d73a02d14a921ffbbb147cd2d8aaf84c75a4dcca07134928c65d"), looks := false }, kinds := [], alts := [], laidByText := true, laidKinds := [.data, .data, .data, .data, .pinned], laidTests := true, laidLooks := .later }
def FnVersionsStayCardSaid : Prop := Claim7.holds Tryz.pinned (.plain (OpenSpec.ofChange fnVersionsStaySpec)) fnVersionsStayCard

/-- THE TIED CARD OF 'laws.FnReadBack'. -/
def fnReadBackCard : Claim7 := { stood := { row := fnReadBackRow, standIns := [], harness := (true, "f99e0c4a90d9d73a02d14a921ffbbb147cd2d8aaf84c75a4dcca07134928c65d"), looks := false }, kinds := [], alts := [], laidByText := true, laidKinds := [.data, .data, .data, .data, .pinned], laidTests := true, laidLooks := .later }
def FnReadBackCardSaid : Prop := Claim7.holds Tryz.pinned (.plain (OpenSpec.ofChange fnReadBackSpec)) fnReadBackCard

/-- THE TIED CARD OF 'laws.FnArchiveLine'. -/
def fnArchiveLineCard : Claim7 := { stood := { row := fnArchiveLineRow, standIns := [], harness := (true, "f99e0c4a90d9d73a02d14a921ffbbb147cd2d8aaf84c75a4dcca07134928c65d"), looks := false }, kinds := [], alts := [], laidByText := true, laidKinds := [.data, .data, .data, .data, .pinned], laidTests := true, laidLooks := .later }
def FnArchiveLineCardSaid : Prop := Claim7.holds Tryz.pinned (.plain (OpenSpec.ofChange fnArchiveLineSpec)) fnArchiveLineCard

/-- THE TIED CARD OF 'laws.FnArchiveLines'. -/
def fnArchiveLinesCard : Claim7 := { stood := { row := fnArchiveLinesRow, standIns := [], harness := (true, "f99e0c4a90d9d73a02d14a921ffbbb147cd2d8aaf84c75a4dcca07134928c65d"), looks := false }, kinds := [], alts := [], laidByText := true, laidKinds := [.data, .data, .data, .data, .pinned], laidTests := true, laidLooks := .later }
def FnArchiveLinesCardSaid : Prop := Claim7.holds Tryz.pinned (.plain (OpenSpec.ofChange fnArchiveLinesSpec)) fnArchiveLinesCard

/-- THE SECOND FORM's CARD OF 'laws.FnExactArchiveLine'. -/
def fnExactArchiveLineUptoCard : Claim7 := { stood := { row := fnExactArchiveLineUptoRow, standIns := [], harness := (true, "f99e0c4a90d9d73a02d14a921ffbbb147cd2d8aaf84c75a4dcca07134928c65d"), looks := false }, kinds := [], alts := [], laidByText := true, laidKinds := [.data, .data, .data, .data, .pinned], laidTests := true, laidLooks := .later }
def FnExactArchiveLineUptoCardSaid : Prop := Claim7.holds Tryz.pinned (.plain (OpenSpec.upto fnExactArchiveLineSpec)) fnExactArchiveLineUptoCard

/-- THE SECOND FORM's CARD OF 'laws.FnExactArchiveLines'. -/
def fnExactArchiveLinesUptoCard : Claim7 := { stood := { row := fnExactArchiveLinesUptoRow, standIns := [], harness := (true, "f99e0c4a90d9d73a02d14a921ffbbb147cd2d8aaf84c75a4dcca07134928c65d"), looks := false }, kinds := [], alts := [], laidByText := true, laidKinds := [.data, .data, .data, .data, .pinned], laidTests := true, laidLooks := .later }
def FnExactArchiveLinesUptoCardSaid : Prop := Claim7.holds Tryz.pinned (.plain (OpenSpec.upto fnExactArchiveLinesSpec)) fnExactArchiveLinesUptoCard

/-- THE SECOND FORM's CARD OF 'laws.FnVersionsStay'. -/
def fnVersionsStayUptoCard : Claim7 := { stood := { row := fnVersionsStayUptoRow, standIns := [], harness := (true, "f99e0c4a90d9d73a02d14a921ffbbb147cd2d8aaf84c75a4dcca07134928c65d"), looks := false }, kinds := [], alts := [], laidByText := true, laidKinds := [.data, .data, .data, .data, .pinned], laidTests := true, laidLooks := .later }
def FnVersionsStayUptoCardSaid : Prop := Claim7.holds Tryz.pinned (.plain (OpenSpec.upto fnVersionsStaySpec)) fnVersionsStayUptoCard

/-- THE SECOND FORM's CARD OF 'laws.FnReadBack'. -/
def fnReadBackUptoCard : Claim7 := { stood := { row := fnReadBackUptoRow, standIns := [], harness := (true, "f99e0c4a90d9d73a02d14a921ffbbb147cd2d8aaf84c75a4dcca07134928c65d"), looks := false }, kinds := [], alts := [], laidByText := true, laidKinds := [.data, .data, .data, .data, .pinned], laidTests := true, laidLooks := .later }
def FnReadBackUptoCardSaid : Prop := Claim7.holds Tryz.pinned (.plain (OpenSpec.upto fnReadBackSpec)) fnReadBackUptoCard

/-- THE SECOND FORM's CARD OF 'laws.FnArchiveLine'. -/
def fnArchiveLineUptoCard : Claim7 := { stood := { row := fnArchiveLineUptoRow, standIns := [], harness := (true, "f99e0c4a90d9d73a02d14a921ffbbb147cd2d8aaf84c75a4dcca07134928c65d"), looks := false }, kinds := [], alts := [], laidByText := true, laidKinds := [.data, .data, .data, .data, .pinned], laidTests := true, laidLooks := .later }
def FnArchiveLineUptoCardSaid : Prop := Claim7.holds Tryz.pinned (.plain (OpenSpec.upto fnArchiveLineSpec)) fnArchiveLineUptoCard

/-- THE SECOND FORM's CARD OF 'laws.FnArchiveLines'. -/
def fnArchiveLinesUptoCard : Claim7 := { stood := { row := fnArchiveLinesUptoRow, standIns := [], harness := (true, "f99e0c4a90d9d73a02d14a921ffbbb147cd2d8aaf84c75a4dcca07134928c65d"), looks := false }, kinds := [], alts := [], laidByText := true, laidKinds := [.data, .data, .data, .data, .pinned], laidTests := true, laidLooks := .later }
def FnArchiveLinesUptoCardSaid : Prop := Claim7.holds Tryz.pinned (.plain (OpenSpec.upto fnArchiveLinesSpec)) fnArchiveLinesUptoCard
end Rows
end Go.Proofs.YtkglfmgmmnfmbaaGreatDoor
