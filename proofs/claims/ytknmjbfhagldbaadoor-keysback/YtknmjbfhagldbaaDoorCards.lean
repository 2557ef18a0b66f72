/-
  DERIVED. GIVEN WITH THE SEED: THE CARDS: each row of YtknmjbfhagldbaaDoorRows.lean that lists a variable, with what it lists TIED to the program's text (the seventh form; the later family's looks); each row that meets fmt, with fmt's text TOLD by the authors' own Lean function (tested against real Go, not proved from fmt's source: count such statements apart). THE CARD IS WHAT COUNTS. Prove the row's statement (the work); the ties are given (YtknmjbfhagldbaaDoorTie.lean); close each card by the builder's one call (the guide's Derived/Test/ToyasCard.lean, 'card_holds'). Laid BY PROGRAM, IN A SANDBOX (cutbox-door.mjs). By AI agents, Wed Nov 11 2026. No macro, syntax, notation, axiom, sorry.
-/
import Derived.Test.YtknmjbfhagldbaaDoorRows
import GoSem.ClaimSeven
namespace Go.Proofs.YtknmjbfhagldbaaDoor
namespace Rows

/-- THE TIED CARD OF 'trestlelaw09.KeysWrites'. -/
def keysWritesCard : Claim7 := { stood := { row := keysWritesRow, standIns := [], harness := (true, "9b2e668a116234de94659f0bf8263c9074944fb958a14536aebe85a2f90bbb39"), looks := true }, kinds := [], alts := [], laidByText := true, laidKinds := [.data, .data, .data, .sentinel, .sentinel], laidTests := true, laidLooks := .later }
def KeysWritesCardSaid : Prop := Claim7.holds Tryd.pinned (.plain (OpenSpec.ofChange keysWritesSpec)) keysWritesCard

/-- THE TIED CARD OF 'trestlelaw09.KeysFiles'. -/
def keysFilesCard : Claim7 := { stood := { row := keysFilesRow, standIns := [], harness := (true, "9b2e668a116234de94659f0bf8263c9074944fb958a14536aebe85a2f90bbb39"), looks := true }, kinds := [], alts := [], laidByText := true, laidKinds := [.data, .data, .data, .sentinel, .sentinel], laidTests := true, laidLooks := .later }
def KeysFilesCardSaid : Prop := Claim7.holds Tryd.pinned (.plain (OpenSpec.ofChange keysFilesSpec)) keysFilesCard

/-- THE TIED CARD OF 'trestlelaw09.KeysGraph'. -/
def keysGraphCard : Claim7 := { stood := { row := keysGraphRow, standIns := [], harness := (true, "9b2e668a116234de94659f0bf8263c9074944fb958a14536aebe85a2f90bbb39"), looks := true }, kinds := [], alts := [], laidByText := true, laidKinds := [.data, .data, .data, .sentinel, .sentinel], laidTests := true, laidLooks := .later }
def KeysGraphCardSaid : Prop := Claim7.holds Tryd.pinned (.plain (OpenSpec.ofChange keysGraphSpec)) keysGraphCard

/-- THE TIED CARD OF 'trestlelaw09.KeysFile'. -/
def keysFileCard : Claim7 := { stood := { row := keysFileRow, standIns := [], harness := (true, "9b2e668a116234de94659f0bf8263c9074944fb958a14536aebe85a2f90bbb39"), looks := true }, kinds := [], alts := [], laidByText := true, laidKinds := [.data, .data, .data, .sentinel, .sentinel], laidTests := true, laidLooks := .later }
def KeysFileCardSaid : Prop := Claim7.holds Tryd.pinned (.plain (OpenSpec.ofChange keysFileSpec)) keysFileCard

/-- THE TIED CARD OF 'trestlelaw09.KeysGraphs'. -/
def keysGraphsCard : Claim7 := { stood := { row := keysGraphsRow, standIns := [], harness := (true, "9b2e668a116234de94659f0bf8263c9074944fb958a14536aebe85a2f90bbb39"), looks := true }, kinds := [], alts := [], laidByText := true, laidKinds := [.data, .data, .data, .sentinel, .sentinel], laidTests := true, laidLooks := .later }
def KeysGraphsCardSaid : Prop := Claim7.holds Tryd.pinned (.plain (OpenSpec.ofChange keysGraphsSpec)) keysGraphsCard

/-- THE TIED CARD OF 'trestlelaw09.KeysBack'. -/
def keysBackCard : Claim7 := { stood := { row := keysBackRow, standIns := [], harness := (true, "9b2e668a116234de94659f0bf8263c9074944fb958a14536aebe85a2f90bbb39"), looks := true }, kinds := [], alts := [], laidByText := true, laidKinds := [.data, .data, .data, .sentinel, .sentinel], laidTests := true, laidLooks := .later }
def KeysBackCardSaid : Prop := Claim7.holds Tryd.pinned (.plain (OpenSpec.ofChange keysBackSpec)) keysBackCard

/-- THE TIED CARD OF 'trestlelaw09.KeysOrder'. -/
def keysOrderCard : Claim7 := { stood := { row := keysOrderRow, standIns := [], harness := (true, "9b2e668a116234de94659f0bf8263c9074944fb958a14536aebe85a2f90bbb39"), looks := true }, kinds := [], alts := [], laidByText := true, laidKinds := [.data, .data, .data, .sentinel, .sentinel], laidTests := true, laidLooks := .later }
def KeysOrderCardSaid : Prop := Claim7.holds Tryd.pinned (.plain (OpenSpec.ofChange keysOrderSpec)) keysOrderCard

/-- THE SECOND FORM's CARD OF 'trestlelaw09.KeysWrites'. -/
def keysWritesUptoCard : Claim7 := { stood := { row := keysWritesUptoRow, standIns := [], harness := (true, "9b2e668a116234de94659f0bf8263c9074944fb958a14536aebe85a2f90bbb39"), looks := true }, kinds := [], alts := [], laidByText := true, laidKinds := [.data, .data, .data, .sentinel, .sentinel], laidTests := true, laidLooks := .later }
def KeysWritesUptoCardSaid : Prop := Claim7.holds Tryd.pinned (.plain (OpenSpec.upto keysWritesSpec)) keysWritesUptoCard

/-- THE SECOND FORM's CARD OF 'trestlelaw09.KeysFiles'. -/
def keysFilesUptoCard : Claim7 := { stood := { row := keysFilesUptoRow, standIns := [], harness := (true, "9b2e668a116234de94659f0bf8263c9074944fb958a14536aebe85a2f90bbb39"), looks := true }, kinds := [], alts := [], laidByText := true, laidKinds := [.data, .data, .data, .sentinel, .sentinel], laidTests := true, laidLooks := .later }
def KeysFilesUptoCardSaid : Prop := Claim7.holds Tryd.pinned (.plain (OpenSpec.upto keysFilesSpec)) keysFilesUptoCard

/-- THE SECOND FORM's CARD OF 'trestlelaw09.KeysGraph'. -/
def keysGraphUptoCard : Claim7 := { stood := { row := keysGraphUptoRow, standIns := [], harness := (true, "9b2e668a116234de94659f0bf8263c9074944fb958a14536aebe85a2f90bbb39"), looks := true }, kinds := [], alts := [], laidByText := true, laidKinds := [.data, .data, .data, .sentinel, .sentinel], laidTests := true, laidLooks := .later }
def KeysGraphUptoCardSaid : Prop := Claim7.holds Tryd.pinned (.plain (OpenSpec.upto keysGraphSpec)) keysGraphUptoCard

/-- THE SECOND FORM's CARD OF 'trestlelaw09.KeysFile'. -/
def keysFileUptoCard : Claim7 := { stood := { row := keysFileUptoRow, standIns := [], harness := (true, "9b2e668a116234de94659f0bf8263c9074944fb958a14536aebe85a2f90bbb39"), looks := true }, kinds := [], alts := [], laidByText := true, laidKinds := [.data, .data, .data, .sentinel, .sentinel], laidTests := true, laidLooks := .later }
def KeysFileUptoCardSaid : Prop := Claim7.holds Tryd.pinned (.plain (OpenSpec.upto keysFileSpec)) keysFileUptoCard

/-- THE SECOND FORM's CARD OF 'trestlelaw09.KeysGraphs'. -/
def keysGraphsUptoCard : Claim7 := { stood := { row := keysGraphsUptoRow, standIns := [], harness := (true, "9b2e668a116234de94659f0bf8263c9074944fb958a14536aebe85a2f90bbb39"), looks := true }, kinds := [], alts := [], laidByText := true, laidKinds := [.data, .data, .data, .sentinel, .sentinel], laidTests := true, laidLooks := .later }
def KeysGraphsUptoCardSaid : Prop := Claim7.holds Tryd.pinned (.plain (OpenSpec.upto keysGraphsSpec)) keysGraphsUptoCard

/-- THE SECOND FORM's CARD OF 'trestlelaw09.KeysBack'. -/
def keysBackUptoCard : Claim7 := { stood := { row := keysBackUptoRow, standIns := [], harness := (true, "9b2e668a116234de94659f0bf8263c9074944fb958a14536aebe85a2f90bbb39"), looks := true }, kinds := [], alts := [], laidByText := true, laidKinds := [.data, .data, .data, .sentinel, .sentinel], laidTests := true, laidLooks := .later }
def KeysBackUptoCardSaid : Prop := Claim7.holds Tryd.pinned (.plain (OpenSpec.upto keysBackSpec)) keysBackUptoCard

/-- THE SECOND FORM's CARD OF 'trestlelaw09.KeysOrder'. -/
def keysOrderUptoCard : Claim7 := { stood := { row := keysOrderUptoRow, standIns := [], harness := (true, "9b2e668a116234de94659f0bf8263c9074944fb958a14536aebe85a2f90bbb39"), looks := true }, kinds := [], alts := [], laidByText := true, laidKinds := [.data, .data, .data, .sentinel, .sentinel], laidTests := true, laidLooks := .later }
def KeysOrderUptoCardSaid : Prop := Claim7.holds Tryd.pinned (.plain (OpenSpec.upto keysOrderSpec)) keysOrderUptoCard
end Rows
end Go.Proofs.YtknmjbfhagldbaaDoor
