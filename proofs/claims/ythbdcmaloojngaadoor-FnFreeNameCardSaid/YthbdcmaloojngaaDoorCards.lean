/-
  DERIVED. GIVEN WITH THE SEED: THE CARDS: each row of YthbdcmaloojngaaDoorRows.lean that lists a variable, with what it lists TIED to the program's text (the seventh form; the later family's looks); each row that meets fmt, with fmt's text TOLD by the authors' own Lean function (tested against real Go, not proved from fmt's source: count such statements apart). THE CARD IS WHAT COUNTS. Prove the row's statement (the work); the ties are given (YthbdcmaloojngaaDoorTie.lean); close each card by the builder's one call (the guide's Derived/Test/ToyasCard.lean, 'card_holds'). Laid BY PROGRAM, IN A SANDBOX (cutbox-door.mjs). By AI agents, Wed Nov 11 2026. No macro, syntax, notation, axiom, sorry.
-/
import Derived.Test.YthbdcmaloojngaaDoorRows
import GoSem.ClaimSeven
namespace Go.Proofs.YthbdcmaloojngaaDoor
namespace Rows

/-- THE TIED CARD OF 'laws.FnExactWordsOf'. -/
def fnExactWordsOfCard : Claim7 := { stood := { row := fnExactWordsOfRow, standIns := [], harness := (true, "34842926678df1cd2aebd21c424e9810bc1ccff255c304acc465c496c869eca4"), looks := false }, kinds := [], alts := [], laidByText := true, laidKinds := [.data, .pinned], laidTests := true, laidLooks := .later }
def FnExactWordsOfCardSaid : Prop := Claim7.holds Tryd.pinned (.plain (OpenSpec.ofChange fnExactWordsOfSpec)) fnExactWordsOfCard

/-- THE TIED CARD OF 'laws.FnExactFreeName'. -/
def fnExactFreeNameCard : Claim7 := { stood := { row := fnExactFreeNameRow, standIns := [], harness := (true, "34842926678df1cd2aebd21c424e9810bc1ccff255c304acc465c496c869eca4"), looks := false }, kinds := [], alts := [], laidByText := true, laidKinds := [.data, .data, .data], laidTests := true, laidLooks := .later }
def FnExactFreeNameCardSaid : Prop := Claim7.holds Tryd.pinned (.plain (OpenSpec.ofChange fnExactFreeNameSpec)) fnExactFreeNameCard

/-- THE TIED CARD OF 'laws.FnWordsOf'. -/
def fnWordsOfCard : Claim7 := { stood := { row := fnWordsOfRow, standIns := [], harness := (true, "34842926678df1cd2aebd21c424e9810bc1ccff255c304acc465c496c869eca4"), looks := false }, kinds := [], alts := [], laidByText := true, laidKinds := [.data, .pinned], laidTests := true, laidLooks := .later }
def FnWordsOfCardSaid : Prop := Claim7.holds Tryd.pinned (.plain (OpenSpec.ofChange fnWordsOfSpec)) fnWordsOfCard

/-- THE TIED CARD OF 'laws.FnExactCommonWords'. -/
def fnExactCommonWordsCard : Claim7 := { stood := { row := fnExactCommonWordsRow, standIns := [], harness := (true, "34842926678df1cd2aebd21c424e9810bc1ccff255c304acc465c496c869eca4"), looks := false }, kinds := [], alts := [], laidByText := true, laidKinds := [.data, .pinned], laidTests := true, laidLooks := .later }
def FnExactCommonWordsCardSaid : Prop := Claim7.holds Tryd.pinned (.plain (OpenSpec.ofChange fnExactCommonWordsSpec)) fnExactCommonWordsCard

/-- THE TIED CARD OF 'laws.FnFreeName'. -/
def fnFreeNameCard : Claim7 := { stood := { row := fnFreeNameRow, standIns := [], harness := (true, "34842926678df1cd2aebd21c424e9810bc1ccff255c304acc465c496c869eca4"), looks := false }, kinds := [], alts := [], laidByText := true, laidKinds := [.data, .data, .data], laidTests := true, laidLooks := .later }
def FnFreeNameCardSaid : Prop := Claim7.holds Tryd.pinned (.plain (OpenSpec.ofChange fnFreeNameSpec)) fnFreeNameCard

/-- THE TIED CARD OF 'laws.FnCommonWords'. -/
def fnCommonWordsCard : Claim7 := { stood := { row := fnCommonWordsRow, standIns := [], harness := (true, "34842926678df1cd2aebd21c424e9810bc1ccff255c304acc465c496c869eca4"), looks := false }, kinds := [], alts := [], laidByText := true, laidKinds := [.data, .pinned], laidTests := true, laidLooks := .later }
def FnCommonWordsCardSaid : Prop := Claim7.holds Tryd.pinned (.plain (OpenSpec.ofChange fnCommonWordsSpec)) fnCommonWordsCard

/-- THE SECOND FORM's CARD OF 'laws.FnExactWordsOf'. -/
def fnExactWordsOfUptoCard : Claim7 := { stood := { row := fnExactWordsOfUptoRow, standIns := [], harness := (true, "34842926678df1cd2aebd21c424e9810bc1ccff255c304acc465c496c869eca4"), looks := false }, kinds := [], alts := [], laidByText := true, laidKinds := [.data, .pinned], laidTests := true, laidLooks := .later }
def FnExactWordsOfUptoCardSaid : Prop := Claim7.holds Tryd.pinned (.plain (OpenSpec.upto fnExactWordsOfSpec)) fnExactWordsOfUptoCard

/-- THE SECOND FORM's CARD OF 'laws.FnExactFreeName'. -/
def fnExactFreeNameUptoCard : Claim7 := { stood := { row := fnExactFreeNameUptoRow, standIns := [], harness := (true, "34842926678df1cd2aebd21c424e9810bc1ccff255c304acc465c496c869eca4"), looks := false }, kinds := [], alts := [], laidByText := true, laidKinds := [.data, .data, .data], laidTests := true, laidLooks := .later }
def FnExactFreeNameUptoCardSaid : Prop := Claim7.holds Tryd.pinned (.plain (OpenSpec.upto fnExactFreeNameSpec)) fnExactFreeNameUptoCard

/-- THE SECOND FORM's CARD OF 'laws.FnWordsOf'. -/
def fnWordsOfUptoCard : Claim7 := { stood := { row := fnWordsOfUptoRow, standIns := [], harness := (true, "34842926678df1cd2aebd21c424e9810bc1ccff255c304acc465c496c869eca4"), looks := false }, kinds := [], alts := [], laidByText := true, laidKinds := [.data, .pinned], laidTests := true, laidLooks := .later }
def FnWordsOfUptoCardSaid : Prop := Claim7.holds Tryd.pinned (.plain (OpenSpec.upto fnWordsOfSpec)) fnWordsOfUptoCard

/-- THE SECOND FORM's CARD OF 'laws.FnExactCommonWords'. -/
def fnExactCommonWordsUptoCard : Claim7 := { stood := { row := fnExactCommonWordsUptoRow, standIns := [], harness := (true, "34842926678df1cd2aebd21c424e9810bc1ccff255c304acc465c496c869eca4"), looks := false }, kinds := [], alts := [], laidByText := true, laidKinds := [.data, .pinned], laidTests := true, laidLooks := .later }
def FnExactCommonWordsUptoCardSaid : Prop := Claim7.holds Tryd.pinned (.plain (OpenSpec.upto fnExactCommonWordsSpec)) fnExactCommonWordsUptoCard

/-- THE SECOND FORM's CARD OF 'laws.FnFreeName'. -/
def fnFreeNameUptoCard : Claim7 := { stood := { row := fnFreeNameUptoRow, standIns := [], harness := (true, "34842926678df1cd2aebd21c424e9810bc1ccff255c304acc465c496c869eca4"), looks := false }, kinds := [], alts := [], laidByText := true, laidKinds := [.data, .data, .data], laidTests := true, laidLooks := .later }
def FnFreeNameUptoCardSaid : Prop := Claim7.holds Tryd.pinned (.plain (OpenSpec.upto fnFreeNameSpec)) fnFreeNameUptoCard

/-- THE SECOND FORM's CARD OF 'laws.FnCommonWords'. -/
def fnCommonWordsUptoCard : Claim7 := { stood := { row := fnCommonWordsUptoRow, standIns := [], harness := (true, "34842926678df1cd2aebd21c424e9810bc1ccff255c304acc465c496c869eca4"), looks := false }, kinds := [], alts := [], laidByText := true, laidKinds := [.data, .pinned], laidTests := true, laidLooks := .later }
def FnCommonWordsUptoCardSaid : Prop := Claim7.holds Tryd.pinned (.plain (OpenSpec.upto fnCommonWordsSpec)) fnCommonWordsUptoCard
end Rows
end Go.Proofs.YthbdcmaloojngaaDoor
