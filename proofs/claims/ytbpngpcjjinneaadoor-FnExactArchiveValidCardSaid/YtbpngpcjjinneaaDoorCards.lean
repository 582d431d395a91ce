/-
  DERIVED. GIVEN WITH THE SEED: THE CARDS: each row of YtbpngpcjjinneaaDoorRows.lean that lists a variable, with what it lists TIED to the program's text (the seventh form; the later family's looks); each row that meets fmt, with fmt's text TOLD by the authors' own Lean function (tested against real Go, not proved from fmt's source: count such statements apart). THE CARD IS WHAT COUNTS. Prove the row's statement (the work); the ties are given (YtbpngpcjjinneaaDoorTie.lean); close each card by the builder's one call (the guide's Derived/Test/ToyasCard.lean, 'card_holds'). Laid BY PROGRAM, IN A SANDBOX (cutbox-door.mjs). By AI agents, Wed Nov 11 2026. No macro, syntax, notation, axiom, sorry.
-/
import Derived.Test.YtbpngpcjjinneaaDoorRows
import GoSem.ClaimSeven
namespace Go.Proofs.YtbpngpcjjinneaaDoor
namespace Rows

/-- THE TIED CARD OF 'laws.FnExactQuotasValid'. -/
def fnExactQuotasValidCard : Claim7 := { stood := { row := fnExactQuotasValidRow, standIns := [], harness := (true, "afc26a50548d90f3e8da8874ffe118417497833a8153d04aaf701b38f3205874"), looks := false }, kinds := [], alts := [], laidByText := true, laidKinds := [.data, .pinned], laidTests := true, laidLooks := .later }
def FnExactQuotasValidCardSaid : Prop := Claim7.holds Tryd.pinned (.plain (OpenSpec.ofChange fnExactQuotasValidSpec)) fnExactQuotasValidCard

/-- THE TIED CARD OF 'laws.FnQuotasValid'. -/
def fnQuotasValidCard : Claim7 := { stood := { row := fnQuotasValidRow, standIns := [], harness := (true, "afc26a50548d90f3e8da8874ffe118417497833a8153d04aaf701b38f3205874"), looks := false }, kinds := [], alts := [], laidByText := true, laidKinds := [.data, .pinned], laidTests := true, laidLooks := .later }
def FnQuotasValidCardSaid : Prop := Claim7.holds Tryd.pinned (.plain (OpenSpec.ofChange fnQuotasValidSpec)) fnQuotasValidCard

/-- THE TIED CARD OF 'laws.FnExactNewArchive'. -/
def fnExactNewArchiveCard : Claim7 := { stood := { row := fnExactNewArchiveRow, standIns := [], harness := (true, "afc26a50548d90f3e8da8874ffe118417497833a8153d04aaf701b38f3205874"), looks := false }, kinds := [], alts := [], laidByText := true, laidKinds := [.data, .data, .data], laidTests := true, laidLooks := .later }
def FnExactNewArchiveCardSaid : Prop := Claim7.holds Tryd.pinned (.plain (OpenSpec.ofChange fnExactNewArchiveSpec)) fnExactNewArchiveCard

/-- THE TIED CARD OF 'laws.FnExactReadBundle'. -/
def fnExactReadBundleCard : Claim7 := { stood := { row := fnExactReadBundleRow, standIns := [], harness := (true, "afc26a50548d90f3e8da8874ffe118417497833a8153d04aaf701b38f3205874"), looks := false }, kinds := [], alts := [], laidByText := true, laidKinds := [.data, .data, .data], laidTests := true, laidLooks := .later }
def FnExactReadBundleCardSaid : Prop := Claim7.holds Tryd.pinned (.plain (OpenSpec.ofChange fnExactReadBundleSpec)) fnExactReadBundleCard

/-- THE TIED CARD OF 'laws.FnExactArchiveValid'. -/
def fnExactArchiveValidCard : Claim7 := { stood := { row := fnExactArchiveValidRow, standIns := [], harness := (true, "afc26a50548d90f3e8da8874ffe118417497833a8153d04aaf701b38f3205874"), looks := false }, kinds := [], alts := [], laidByText := true, laidKinds := [.data, .data, .data], laidTests := true, laidLooks := .later }
def FnExactArchiveValidCardSaid : Prop := Claim7.holds Tryd.pinned (.plain (OpenSpec.ofChange fnExactArchiveValidSpec)) fnExactArchiveValidCard

/-- THE SECOND FORM's CARD OF 'laws.FnExactQuotasValid'. -/
def fnExactQuotasValidUptoCard : Claim7 := { stood := { row := fnExactQuotasValidUptoRow, standIns := [], harness := (true, "afc26a50548d90f3e8da8874ffe118417497833a8153d04aaf701b38f3205874"), looks := false }, kinds := [], alts := [], laidByText := true, laidKinds := [.data, .pinned], laidTests := true, laidLooks := .later }
def FnExactQuotasValidUptoCardSaid : Prop := Claim7.holds Tryd.pinned (.plain (OpenSpec.upto fnExactQuotasValidSpec)) fnExactQuotasValidUptoCard

/-- THE SECOND FORM's CARD OF 'laws.FnQuotasValid'. -/
def fnQuotasValidUptoCard : Claim7 := { stood := { row := fnQuotasValidUptoRow, standIns := [], harness := (true, "afc26a50548d90f3e8da8874ffe118417497833a8153d04aaf701b38f3205874"), looks := false }, kinds := [], alts := [], laidByText := true, laidKinds := [.data, .pinned], laidTests := true, laidLooks := .later }
def FnQuotasValidUptoCardSaid : Prop := Claim7.holds Tryd.pinned (.plain (OpenSpec.upto fnQuotasValidSpec)) fnQuotasValidUptoCard

/-- THE SECOND FORM's CARD OF 'laws.FnExactNewArchive'. -/
def fnExactNewArchiveUptoCard : Claim7 := { stood := { row := fnExactNewArchiveUptoRow, standIns := [], harness := (true, "afc26a50548d90f3e8da8874ffe118417497833a8153d04aaf701b38f3205874"), looks := false }, kinds := [], alts := [], laidByText := true, laidKinds := [.data, .data, .data], laidTests := true, laidLooks := .later }
def FnExactNewArchiveUptoCardSaid : Prop := Claim7.holds Tryd.pinned (.plain (OpenSpec.upto fnExactNewArchiveSpec)) fnExactNewArchiveUptoCard

/-- THE SECOND FORM's CARD OF 'laws.FnExactReadBundle'. -/
def fnExactReadBundleUptoCard : Claim7 := { stood := { row := fnExactReadBundleUptoRow, standIns := [], harness := (true, "afc26a50548d90f3e8da8874ffe118417497833a8153d04aaf701b38f3205874"), looks := false }, kinds := [], alts := [], laidByText := true, laidKinds := [.data, .data, .data], laidTests := true, laidLooks := .later }
def FnExactReadBundleUptoCardSaid : Prop := Claim7.holds Tryd.pinned (.plain (OpenSpec.upto fnExactReadBundleSpec)) fnExactReadBundleUptoCard

/-- THE SECOND FORM's CARD OF 'laws.FnExactArchiveValid'. -/
def fnExactArchiveValidUptoCard : Claim7 := { stood := { row := fnExactArchiveValidUptoRow, standIns := [], harness := (true, "afc26a50548d90f3e8da8874ffe118417497833a8153d04aaf701b38f3205874"), looks := false }, kinds := [], alts := [], laidByText := true, laidKinds := [.data, .data, .data], laidTests := true, laidLooks := .later }
def FnExactArchiveValidUptoCardSaid : Prop := Claim7.holds Tryd.pinned (.plain (OpenSpec.upto fnExactArchiveValidSpec)) fnExactArchiveValidUptoCard
end Rows
end Go.Proofs.YtbpngpcjjinneaaDoor
