/-
  DERIVED. GIVEN WITH THE SEED: THE CARDS: each row of YtimfljncibbdoaaDoorRows.lean that lists a variable, with what it lists TIED to the program's text (the seventh form; the later family's looks); each row that meets fmt, with fmt's text TOLD by the authors' own Lean function (tested against real Go, not proved from fmt's source: count such statements apart). THE CARD IS WHAT COUNTS. Prove the row's statement (the work); the ties are given (YtimfljncibbdoaaDoorTie.lean); close each card by the builder's one call (the guide's Derived/Test/ToyasCard.lean, 'card_holds'). Laid BY PROGRAM, IN A SANDBOX (cutbox-door.mjs). By AI agents, Wed Nov 11 2026. No macro, syntax, notation, axiom, sorry.
-/
import Derived.Test.YtimfljncibbdoaaDoorRows
import GoSem.ClaimSeven
namespace Go.Proofs.YtimfljncibbdoaaDoor
namespace Rows

/-- THE TIED CARD OF 'trestlelaw05.LangParses'. -/
def langParsesCard : Claim7 := { stood := { row := langParsesRow, standIns := [], harness := (true, "e0f51e62bab7994a8d407f5bbb4d7e2194ceea0a5f6d3cf693cff12a647c3330"), looks := true }, kinds := [], alts := [], laidByText := true, laidKinds := [.data, .data, .data, .data, .sentinel, .sentinel, .listed, .data, .pinned], laidTests := true, laidLooks := .later }
def LangParsesCardSaid : Prop := Claim7.holds Tryd.pinned (.plain (OpenSpec.ofChange langParsesSpec)) langParsesCard

/-- THE TIED CARD OF 'trestlelaw05.LangLines'. -/
def langLinesCard : Claim7 := { stood := { row := langLinesRow, standIns := [], harness := (true, "e0f51e62bab7994a8d407f5bbb4d7e2194ceea0a5f6d3cf693cff12a647c3330"), looks := true }, kinds := [], alts := [], laidByText := true, laidKinds := [.data, .data, .data, .data, .sentinel, .sentinel, .listed, .data, .pinned], laidTests := true, laidLooks := .later }
def LangLinesCardSaid : Prop := Claim7.holds Tryd.pinned (.plain (OpenSpec.ofChange langLinesSpec)) langLinesCard

/-- THE TIED CARD OF 'trestlelaw05.LangPrint'. -/
def langPrintCard : Claim7 := { stood := { row := langPrintRow, standIns := [], harness := (true, "e0f51e62bab7994a8d407f5bbb4d7e2194ceea0a5f6d3cf693cff12a647c3330"), looks := true }, kinds := [], alts := [], laidByText := true, laidKinds := [.data, .data, .data, .data, .sentinel, .sentinel, .listed, .data, .pinned], laidTests := true, laidLooks := .later }
def LangPrintCardSaid : Prop := Claim7.holds Tryd.pinned (.plain (OpenSpec.ofChange langPrintSpec)) langPrintCard

/-- THE TIED CARD OF 'trestlelaw05.LangBack'. -/
def langBackCard : Claim7 := { stood := { row := langBackRow, standIns := [], harness := (true, "e0f51e62bab7994a8d407f5bbb4d7e2194ceea0a5f6d3cf693cff12a647c3330"), looks := true }, kinds := [], alts := [], laidByText := true, laidKinds := [.data, .data, .data, .data, .sentinel, .sentinel, .listed, .data, .pinned], laidTests := true, laidLooks := .later }
def LangBackCardSaid : Prop := Claim7.holds Tryd.pinned (.plain (OpenSpec.ofChange langBackSpec)) langBackCard

/-- THE SECOND FORM's CARD OF 'trestlelaw05.LangParses'. -/
def langParsesUptoCard : Claim7 := { stood := { row := langParsesUptoRow, standIns := [], harness := (true, "e0f51e62bab7994a8d407f5bbb4d7e2194ceea0a5f6d3cf693cff12a647c3330"), looks := true }, kinds := [], alts := [], laidByText := true, laidKinds := [.data, .data, .data, .data, .sentinel, .sentinel, .listed, .data, .pinned], laidTests := true, laidLooks := .later }
def LangParsesUptoCardSaid : Prop := Claim7.holds Tryd.pinned (.plain (OpenSpec.upto langParsesSpec)) langParsesUptoCard

/-- THE SECOND FORM's CARD OF 'trestlelaw05.LangLines'. -/
def langLinesUptoCard : Claim7 := { stood := { row := langLinesUptoRow, standIns := [], harness := (true, "e0f51e62bab7994a8d407f5bbb4d7e2194ceea0a5f6d3cf693cff12a647c3330"), looks := true }, kinds := [], alts := [], laidByText := true, laidKinds := [.data, .data, .data, .data, .sentinel, .sentinel, .listed, .data, .pinned], laidTests := true, laidLooks := .later }
def LangLinesUptoCardSaid : Prop := Claim7.holds Tryd.pinned (.plain (OpenSpec.upto langLinesSpec)) langLinesUptoCard

/-- THE SECOND FORM's CARD OF 'trestlelaw05.LangPrint'. -/
def langPrintUptoCard : Claim7 := { stood := { row := langPrintUptoRow, standIns := [], harness := (true, "e0f51e62bab7994a8d407f5bbb4d7e2194ceea0a5f6d3cf693cff12a647c3330"), looks := true }, kinds := [], alts := [], laidByText := true, laidKinds := [.data, .data, .data, .data, .sentinel, .sentinel, .listed, .data, .pinned], laidTests := true, laidLooks := .later }
def LangPrintUptoCardSaid : Prop := Claim7.holds Tryd.pinned (.plain (OpenSpec.upto langPrintSpec)) langPrintUptoCard

/-- THE SECOND FORM's CARD OF 'trestlelaw05.LangBack'. -/
def langBackUptoCard : Claim7 := { stood := { row := langBackUptoRow, standIns := [], harness := (true, "e0f51e62bab7994a8d407f5bbb4d7e2194ceea0a5f6d3cf693cff12a647c3330"), looks := true }, kinds := [], alts := [], laidByText := true, laidKinds := [.data, .data, .data, .data, .sentinel, .sentinel, .listed, .data, .pinned], laidTests := true, laidLooks := .later }
def LangBackUptoCardSaid : Prop := Claim7.holds Tryd.pinned (.plain (OpenSpec.upto langBackSpec)) langBackUptoCard
end Rows
end Go.Proofs.YtimfljncibbdoaaDoor
