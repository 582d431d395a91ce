/-
  DERIVED. GIVEN WITH THE SEED: THE CARDS: each row of YtaeaccakkielmaaDoorRows.lean that lists a variable, with what it lists TIED to the program's text (the seventh form; the later family's looks); each row that meets fmt, with fmt's text TOLD by the authors' own Lean function (tested against real Go, not proved from fmt's source: count such statements apart). THE CARD IS WHAT COUNTS. Prove the row's statement (the work); the ties are given (YtaeaccakkielmaaDoorTie.lean); close each card by the builder's one call (the guide's Derived/Test/ToyasCard.lean, 'card_holds'). Laid BY PROGRAM, IN A SANDBOX (cutbox-door.mjs). By AI agents, Wed Nov 11 2026. No macro, syntax, notation, axiom, sorry.
-/
import Derived.Test.YtaeaccakkielmaaDoorRows
import GoSem.ClaimSeven
namespace Go.Proofs.YtaeaccakkielmaaDoor
namespace Rows

/-- THE TIED CARD OF 'laws.FnExactQuotasValid'. -/
def fnExactQuotasValidCard : Claim7 := { stood := { row := fnExactQuotasValidRow, standIns := [], harness := (true, "1c5ed04679d43e812a84becfcd48ebc9e743bc1ef01b9fed2747ed5b9ea59122"), looks := false }, kinds := [], alts := [], laidByText := true, laidKinds := [.data, .pinned], laidTests := true, laidLooks := .later }
def FnExactQuotasValidCardSaid : Prop := Claim7.holds Tryd.pinned (.plain (OpenSpec.ofChange fnExactQuotasValidSpec)) fnExactQuotasValidCard

/-- THE TIED CARD OF 'laws.FnQuotasValid'. -/
def fnQuotasValidCard : Claim7 := { stood := { row := fnQuotasValidRow, standIns := [], harness := (true, "1c5ed04679d43e812a84becfcd48ebc9e743bc1ef01b9fed2747ed5b9ea59122"), looks := false }, kinds := [], alts := [], laidByText := true, laidKinds := [.data, .pinned], laidTests := true, laidLooks := .later }
def FnQuotasValidCardSaid : Prop := Claim7.holds Tryd.pinned (.plain (OpenSpec.ofChange fnQuotasValidSpec)) fnQuotasValidCard

/-- THE TIED CARD OF 'laws.FnBundleLines'. -/
def fnBundleLinesCard : Claim7 := { stood := { row := fnBundleLinesRow, standIns := [], harness := (true, "1c5ed04679d43e812a84becfcd48ebc9e743bc1ef01b9fed2747ed5b9ea59122"), looks := false }, kinds := [], alts := [], laidByText := true, laidKinds := [.data, .data, .data], laidTests := true, laidLooks := .later }
def FnBundleLinesCardSaid : Prop := Claim7.holds Tryd.pinned (.plain (OpenSpec.ofChange fnBundleLinesSpec)) fnBundleLinesCard

/-- THE TIED CARD OF 'laws.FnReadBundle'. -/
def fnReadBundleCard : Claim7 := { stood := { row := fnReadBundleRow, standIns := [], harness := (true, "1c5ed04679d43e812a84becfcd48ebc9e743bc1ef01b9fed2747ed5b9ea59122"), looks := false }, kinds := [], alts := [], laidByText := true, laidKinds := [.data, .data, .data], laidTests := true, laidLooks := .later }
def FnReadBundleCardSaid : Prop := Claim7.holds Tryd.pinned (.plain (OpenSpec.ofChange fnReadBundleSpec)) fnReadBundleCard

/-- THE SECOND FORM's CARD OF 'laws.FnExactQuotasValid'. -/
def fnExactQuotasValidUptoCard : Claim7 := { stood := { row := fnExactQuotasValidUptoRow, standIns := [], harness := (true, "1c5ed04679d43e812a84becfcd48ebc9e743bc1ef01b9fed2747ed5b9ea59122"), looks := false }, kinds := [], alts := [], laidByText := true, laidKinds := [.data, .pinned], laidTests := true, laidLooks := .later }
def FnExactQuotasValidUptoCardSaid : Prop := Claim7.holds Tryd.pinned (.plain (OpenSpec.upto fnExactQuotasValidSpec)) fnExactQuotasValidUptoCard

/-- THE SECOND FORM's CARD OF 'laws.FnQuotasValid'. -/
def fnQuotasValidUptoCard : Claim7 := { stood := { row := fnQuotasValidUptoRow, standIns := [], harness := (true, "1c5ed04679d43e812a84becfcd48ebc9e743bc1ef01b9fed2747ed5b9ea59122"), looks := false }, kinds := [], alts := [], laidByText := true, laidKinds := [.data, .pinned], laidTests := true, laidLooks := .later }
def FnQuotasValidUptoCardSaid : Prop := Claim7.holds Tryd.pinned (.plain (OpenSpec.upto fnQuotasValidSpec)) fnQuotasValidUptoCard

/-- THE SECOND FORM's CARD OF 'laws.FnBundleLines'. -/
def fnBundleLinesUptoCard : Claim7 := { stood := { row := fnBundleLinesUptoRow, standIns := [], harness := (true, "1c5ed04679d43e812a84becfcd48ebc9e743bc1ef01b9fed2747ed5b9ea59122"), looks := false }, kinds := [], alts := [], laidByText := true, laidKinds := [.data, .data, .data], laidTests := true, laidLooks := .later }
def FnBundleLinesUptoCardSaid : Prop := Claim7.holds Tryd.pinned (.plain (OpenSpec.upto fnBundleLinesSpec)) fnBundleLinesUptoCard

/-- THE SECOND FORM's CARD OF 'laws.FnReadBundle'. -/
def fnReadBundleUptoCard : Claim7 := { stood := { row := fnReadBundleUptoRow, standIns := [], harness := (true, "1c5ed04679d43e812a84becfcd48ebc9e743bc1ef01b9fed2747ed5b9ea59122"), looks := false }, kinds := [], alts := [], laidByText := true, laidKinds := [.data, .data, .data], laidTests := true, laidLooks := .later }
def FnReadBundleUptoCardSaid : Prop := Claim7.holds Tryd.pinned (.plain (OpenSpec.upto fnReadBundleSpec)) fnReadBundleUptoCard
end Rows
end Go.Proofs.YtaeaccakkielmaaDoor
