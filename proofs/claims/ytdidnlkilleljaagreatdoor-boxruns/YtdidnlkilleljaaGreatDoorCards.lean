/-
  DERIVED. GIVEN WITH THE SEED: THE CARDS: each row of YtdidnlkilleljaaGreatDoorRows.lean that lists a variable, with what it lists TIED to the program's text (the seventh form; the later family's looks); each row that meets fmt, with fmt's text TOLD by the authors' own Lean function (tested against real Go, not proved from fmt's source: count such statements apart). THE CARD IS WHAT COUNTS. Prove the row's statement (the work); the ties are given (YtdidnlkilleljaaGreatDoorTie.lean); close each card by the builder's one call (the guide's Derived/Test/ToyasCard.lean, 'card_holds'). Laid BY PROGRAM, IN A SANDBOX (cutbox-door.mjs). By AI agents, Wed Nov 11 2026. No macro, syntax, notation, axiom, sorry.
-/
import Derived.Test.YtdidnlkilleljaaGreatDoorRows
import GoSem.ClaimSeven
namespace Go.Proofs.YtdidnlkilleljaaGreatDoor
namespace Rows

/-- THE TIED CARD OF 'trestlelaw06.BoxRuns'. -/
def boxRunsCard : Claim7 := { stood := { row := boxRunsRow, standIns := [], harness := (true, "2279cee3bdcea041f2e92c1de329d37c77a3a9d6ae781c090f3750905eb0dede"), looks := true }, kinds := [], alts := [], laidByText := true, laidKinds := [.data, .data, .data, .data, .sentinel, .sentinel, .listed, .data, .pinned], laidTests := true, laidLooks := .later }
def BoxRunsCardSaid : Prop := Claim7.holds Tryz.pinned (.plain (OpenSpec.ofChange boxRunsSpec)) boxRunsCard

/-- THE TIED CARD OF 'trestlelaw08.MeanSame'. -/
def meanSameCard : Claim7 := { stood := { row := meanSameRow, standIns := [], harness := (true, "2279cee3bdcea041f2e92c1de329d37c77a3a9d6ae781c090f3750905eb0dede"), looks := true }, kinds := [], alts := [], laidByText := true, laidKinds := [.data, .data, .data, .data, .sentinel, .sentinel, .listed, .data, .pinned], laidTests := true, laidLooks := .later }
def MeanSameCardSaid : Prop := Claim7.holds Tryz.pinned (.plain (OpenSpec.ofChange meanSameSpec)) meanSameCard

/-- THE TIED CARD OF 'trestlelaw08.MeanBelow'. -/
def meanBelowCard : Claim7 := { stood := { row := meanBelowRow, standIns := [], harness := (true, "2279cee3bdcea041f2e92c1de329d37c77a3a9d6ae781c090f3750905eb0dede"), looks := true }, kinds := [], alts := [], laidByText := true, laidKinds := [.data, .data, .data, .data, .sentinel, .sentinel, .listed, .data, .pinned], laidTests := true, laidLooks := .later }
def MeanBelowCardSaid : Prop := Claim7.holds Tryz.pinned (.plain (OpenSpec.ofChange meanBelowSpec)) meanBelowCard

/-- THE TIED CARD OF 'trestlelaw08.MeanRight'. -/
def meanRightCard : Claim7 := { stood := { row := meanRightRow, standIns := [], harness := (true, "2279cee3bdcea041f2e92c1de329d37c77a3a9d6ae781c090f3750905eb0dede"), looks := true }, kinds := [], alts := [], laidByText := true, laidKinds := [.data, .data, .data, .data, .sentinel, .sentinel, .listed, .data, .pinned], laidTests := true, laidLooks := .later }
def MeanRightCardSaid : Prop := Claim7.holds Tryz.pinned (.plain (OpenSpec.ofChange meanRightSpec)) meanRightCard

/-- THE TIED CARD OF 'trestlelaw04.TreeFiles'. -/
def treeFilesCard : Claim7 := { stood := { row := treeFilesRow, standIns := [], harness := (true, "2279cee3bdcea041f2e92c1de329d37c77a3a9d6ae781c090f3750905eb0dede"), looks := true }, kinds := [], alts := [], laidByText := true, laidKinds := [.data, .data, .data, .data, .sentinel, .sentinel, .pinned], laidTests := true, laidLooks := .later }
def TreeFilesCardSaid : Prop := Claim7.holds Tryz.pinned (.plain (OpenSpec.ofChange treeFilesSpec)) treeFilesCard

/-- THE SECOND FORM's CARD OF 'trestlelaw06.BoxRuns'. -/
def boxRunsUptoCard : Claim7 := { stood := { row := boxRunsUptoRow, standIns := [], harness := (true, "2279cee3bdcea041f2e92c1de329d37c77a3a9d6ae781c090f3750905eb0dede"), looks := true }, kinds := [], alts := [], laidByText := true, laidKinds := [.data, .data, .data, .data, .sentinel, .sentinel, .listed, .data, .pinned], laidTests := true, laidLooks := .later }
def BoxRunsUptoCardSaid : Prop := Claim7.holds Tryz.pinned (.plain (OpenSpec.upto boxRunsSpec)) boxRunsUptoCard

/-- THE SECOND FORM's CARD OF 'trestlelaw08.MeanSame'. -/
def meanSameUptoCard : Claim7 := { stood := { row := meanSameUptoRow, standIns := [], harness := (true, "2279cee3bdcea041f2e92c1de329d37c77a3a9d6ae781c090f3750905eb0dede"), looks := true }, kinds := [], alts := [], laidByText := true, laidKinds := [.data, .data, .data, .data, .sentinel, .sentinel, .listed, .data, .pinned], laidTests := true, laidLooks := .later }
def MeanSameUptoCardSaid : Prop := Claim7.holds Tryz.pinned (.plain (OpenSpec.upto meanSameSpec)) meanSameUptoCard

/-- THE SECOND FORM's CARD OF 'trestlelaw08.MeanBelow'. -/
def meanBelowUptoCard : Claim7 := { stood := { row := meanBelowUptoRow, standIns := [], harness := (true, "2279cee3bdcea041f2e92c1de329d37c77a3a9d6ae781c090f3750905eb0dede"), looks := true }, kinds := [], alts := [], laidByText := true, laidKinds := [.data, .data, .data, .data, .sentinel, .sentinel, .listed, .data, .pinned], laidTests := true, laidLooks := .later }
def MeanBelowUptoCardSaid : Prop := Claim7.holds Tryz.pinned (.plain (OpenSpec.upto meanBelowSpec)) meanBelowUptoCard

/-- THE SECOND FORM's CARD OF 'trestlelaw08.MeanRight'. -/
def meanRightUptoCard : Claim7 := { stood := { row := meanRightUptoRow, standIns := [], harness := (true, "2279cee3bdcea041f2e92c1de329d37c77a3a9d6ae781c090f3750905eb0dede"), looks := true }, kinds := [], alts := [], laidByText := true, laidKinds := [.data, .data, .data, .data, .sentinel, .sentinel, .listed, .data, .pinned], laidTests := true, laidLooks := .later }
def MeanRightUptoCardSaid : Prop := Claim7.holds Tryz.pinned (.plain (OpenSpec.upto meanRightSpec)) meanRightUptoCard

/-- THE SECOND FORM's CARD OF 'trestlelaw04.TreeFiles'. -/
def treeFilesUptoCard : Claim7 := { stood := { row := treeFilesUptoRow, standIns := [], harness := (true, "2279cee3bdcea041f2e92c1de329d37c77a3a9d6ae781c090f3750905eb0dede"), looks := true }, kinds := [], alts := [], laidByText := true, laidKinds := [.data, .data, .data, .data, .sentinel, .sentinel, .pinned], laidTests := true, laidLooks := .later }
def TreeFilesUptoCardSaid : Prop := Claim7.holds Tryz.pinned (.plain (OpenSpec.upto treeFilesSpec)) treeFilesUptoCard
end Rows
end Go.Proofs.YtdidnlkilleljaaGreatDoor
