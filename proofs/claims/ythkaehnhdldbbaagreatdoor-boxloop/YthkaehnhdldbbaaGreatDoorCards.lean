/-
  DERIVED. GIVEN WITH THE SEED: THE CARDS: each row of YthkaehnhdldbbaaGreatDoorRows.lean that lists a variable, with what it lists TIED to the program's text (the seventh form; the later family's looks); each row that meets fmt, with fmt's text TOLD by the authors' own Lean function (tested against real Go, not proved from fmt's source: count such statements apart). THE CARD IS WHAT COUNTS. Prove the row's statement (the work); the ties are given (YthkaehnhdldbbaaGreatDoorTie.lean); close each card by the builder's one call (the guide's Derived/Test/ToyasCard.lean, 'card_holds'). Laid BY PROGRAM, IN A SANDBOX (cutbox-door.mjs). By AI agents, Wed Nov 11 2026. No macro, syntax, notation, axiom, sorry.
-/
import Derived.Test.YthkaehnhdldbbaaGreatDoorRows
import GoSem.ClaimSeven
namespace Go.Proofs.YthkaehnhdldbbaaGreatDoor
namespace Rows

/-- THE TIED CARD OF 'trestlelaw06.BoxRuns'. -/
def boxRunsCard : Claim7 := { stood := { row := boxRunsRow, standIns := [], harness := (true, "f6bb5fafaba33c4d1a8cfe921b0eb4cb5c71bc7ec9f59a50f8603c3413802f43"), looks := true }, kinds := [], alts := [], laidByText := true, laidKinds := [.data, .data, .data, .data, .sentinel, .sentinel, .listed, .data, .pinned], laidTests := true, laidLooks := .later }
def BoxRunsCardSaid : Prop := Claim7.holds Tryz.pinned (.plain (OpenSpec.ofChange boxRunsSpec)) boxRunsCard

/-- THE TIED CARD OF 'trestlelaw06.BoxUpper'. -/
def boxUpperCard : Claim7 := { stood := { row := boxUpperRow, standIns := [], harness := (true, "f6bb5fafaba33c4d1a8cfe921b0eb4cb5c71bc7ec9f59a50f8603c3413802f43"), looks := true }, kinds := [], alts := [], laidByText := true, laidKinds := [.data, .data, .data, .data, .sentinel, .sentinel, .listed, .data, .pinned], laidTests := true, laidLooks := .later }
def BoxUpperCardSaid : Prop := Claim7.holds Tryz.pinned (.plain (OpenSpec.ofChange boxUpperSpec)) boxUpperCard

/-- THE TIED CARD OF 'trestlelaw06.BoxSort'. -/
def boxSortCard : Claim7 := { stood := { row := boxSortRow, standIns := [], harness := (true, "f6bb5fafaba33c4d1a8cfe921b0eb4cb5c71bc7ec9f59a50f8603c3413802f43"), looks := true }, kinds := [], alts := [], laidByText := true, laidKinds := [.data, .data, .data, .data, .sentinel, .sentinel, .listed, .data, .pinned], laidTests := true, laidLooks := .later }
def BoxSortCardSaid : Prop := Claim7.holds Tryz.pinned (.plain (OpenSpec.ofChange boxSortSpec)) boxSortCard

/-- THE TIED CARD OF 'trestlelaw06.BoxLoop'. -/
def boxLoopCard : Claim7 := { stood := { row := boxLoopRow, standIns := [], harness := (true, "f6bb5fafaba33c4d1a8cfe921b0eb4cb5c71bc7ec9f59a50f8603c3413802f43"), looks := true }, kinds := [], alts := [], laidByText := true, laidKinds := [.data, .data, .data, .data, .sentinel, .sentinel, .listed, .data, .pinned], laidTests := true, laidLooks := .later }
def BoxLoopCardSaid : Prop := Claim7.holds Tryz.pinned (.plain (OpenSpec.ofChange boxLoopSpec)) boxLoopCard

/-- THE TIED CARD OF 'trestlelaw08.MeanSame'. -/
def meanSameCard : Claim7 := { stood := { row := meanSameRow, standIns := [], harness := (true, "f6bb5fafaba33c4d1a8cfe921b0eb4cb5c71bc7ec9f59a50f8603c3413802f43"), looks := true }, kinds := [], alts := [], laidByText := true, laidKinds := [.data, .data, .data, .data, .sentinel, .sentinel, .listed, .data, .pinned], laidTests := true, laidLooks := .later }
def MeanSameCardSaid : Prop := Claim7.holds Tryz.pinned (.plain (OpenSpec.ofChange meanSameSpec)) meanSameCard

/-- THE TIED CARD OF 'trestlelaw08.MeanBelow'. -/
def meanBelowCard : Claim7 := { stood := { row := meanBelowRow, standIns := [], harness := (true, "f6bb5fafaba33c4d1a8cfe921b0eb4cb5c71bc7ec9f59a50f8603c3413802f43"), looks := true }, kinds := [], alts := [], laidByText := true, laidKinds := [.data, .data, .data, .data, .sentinel, .sentinel, .listed, .data, .pinned], laidTests := true, laidLooks := .later }
def MeanBelowCardSaid : Prop := Claim7.holds Tryz.pinned (.plain (OpenSpec.ofChange meanBelowSpec)) meanBelowCard

/-- THE TIED CARD OF 'trestlelaw08.MeanRight'. -/
def meanRightCard : Claim7 := { stood := { row := meanRightRow, standIns := [], harness := (true, "f6bb5fafaba33c4d1a8cfe921b0eb4cb5c71bc7ec9f59a50f8603c3413802f43"), looks := true }, kinds := [], alts := [], laidByText := true, laidKinds := [.data, .data, .data, .data, .sentinel, .sentinel, .listed, .data, .pinned], laidTests := true, laidLooks := .later }
def MeanRightCardSaid : Prop := Claim7.holds Tryz.pinned (.plain (OpenSpec.ofChange meanRightSpec)) meanRightCard

/-- THE TIED CARD OF 'trestlelaw04.TreeFiles'. -/
def treeFilesCard : Claim7 := { stood := { row := treeFilesRow, standIns := [], harness := (true, "f6bb5fafaba33c4d1a8cfe921b0eb4cb5c71bc7ec9f59a50f8603c3413802f43"), looks := true }, kinds := [], alts := [], laidByText := true, laidKinds := [.data, .data, .data, .data, .sentinel, .sentinel, .pinned], laidTests := true, laidLooks := .later }
def TreeFilesCardSaid : Prop := Claim7.holds Tryz.pinned (.plain (OpenSpec.ofChange treeFilesSpec)) treeFilesCard

/-- THE SECOND FORM's CARD OF 'trestlelaw06.BoxRuns'. -/
def boxRunsUptoCard : Claim7 := { stood := { row := boxRunsUptoRow, standIns := [], harness := (true, "f6bb5fafaba33c4d1a8cfe921b0eb4cb5c71bc7ec9f59a50f8603c3413802f43"), looks := true }, kinds := [], alts := [], laidByText := true, laidKinds := [.data, .data, .data, .data, .sentinel, .sentinel, .listed, .data, .pinned], laidTests := true, laidLooks := .later }
def BoxRunsUptoCardSaid : Prop := Claim7.holds Tryz.pinned (.plain (OpenSpec.upto boxRunsSpec)) boxRunsUptoCard

/-- THE SECOND FORM's CARD OF 'trestlelaw06.BoxUpper'. -/
def boxUpperUptoCard : Claim7 := { stood := { row := boxUpperUptoRow, standIns := [], harness := (true, "f6bb5fafaba33c4d1a8cfe921b0eb4cb5c71bc7ec9f59a50f8603c3413802f43"), looks := true }, kinds := [], alts := [], laidByText := true, laidKinds := [.data, .data, .data, .data, .sentinel, .sentinel, .listed, .data, .pinned], laidTests := true, laidLooks := .later }
def BoxUpperUptoCardSaid : Prop := Claim7.holds Tryz.pinned (.plain (OpenSpec.upto boxUpperSpec)) boxUpperUptoCard

/-- THE SECOND FORM's CARD OF 'trestlelaw06.BoxSort'. -/
def boxSortUptoCard : Claim7 := { stood := { row := boxSortUptoRow, standIns := [], harness := (true, "f6bb5fafaba33c4d1a8cfe921b0eb4cb5c71bc7ec9f59a50f8603c3413802f43"), looks := true }, kinds := [], alts := [], laidByText := true, laidKinds := [.data, .data, .data, .data, .sentinel, .sentinel, .listed, .data, .pinned], laidTests := true, laidLooks := .later }
def BoxSortUptoCardSaid : Prop := Claim7.holds Tryz.pinned (.plain (OpenSpec.upto boxSortSpec)) boxSortUptoCard

/-- THE SECOND FORM's CARD OF 'trestlelaw06.BoxLoop'. -/
def boxLoopUptoCard : Claim7 := { stood := { row := boxLoopUptoRow, standIns := [], harness := (true, "f6bb5fafaba33c4d1a8cfe921b0eb4cb5c71bc7ec9f59a50f8603c3413802f43"), looks := true }, kinds := [], alts := [], laidByText := true, laidKinds := [.data, .data, .data, .data, .sentinel, .sentinel, .listed, .data, .pinned], laidTests := true, laidLooks := .later }
def BoxLoopUptoCardSaid : Prop := Claim7.holds Tryz.pinned (.plain (OpenSpec.upto boxLoopSpec)) boxLoopUptoCard

/-- THE SECOND FORM's CARD OF 'trestlelaw08.MeanSame'. -/
def meanSameUptoCard : Claim7 := { stood := { row := meanSameUptoRow, standIns := [], harness := (true, "f6bb5fafaba33c4d1a8cfe921b0eb4cb5c71bc7ec9f59a50f8603c3413802f43"), looks := true }, kinds := [], alts := [], laidByText := true, laidKinds := [.data, .data, .data, .data, .sentinel, .sentinel, .listed, .data, .pinned], laidTests := true, laidLooks := .later }
def MeanSameUptoCardSaid : Prop := Claim7.holds Tryz.pinned (.plain (OpenSpec.upto meanSameSpec)) meanSameUptoCard

/-- THE SECOND FORM's CARD OF 'trestlelaw08.MeanBelow'. -/
def meanBelowUptoCard : Claim7 := { stood := { row := meanBelowUptoRow, standIns := [], harness := (true, "f6bb5fafaba33c4d1a8cfe921b0eb4cb5c71bc7ec9f59a50f8603c3413802f43"), looks := true }, kinds := [], alts := [], laidByText := true, laidKinds := [.data, .data, .data, .data, .sentinel, .sentinel, .listed, .data, .pinned], laidTests := true, laidLooks := .later }
def MeanBelowUptoCardSaid : Prop := Claim7.holds Tryz.pinned (.plain (OpenSpec.upto meanBelowSpec)) meanBelowUptoCard

/-- THE SECOND FORM's CARD OF 'trestlelaw08.MeanRight'. -/
def meanRightUptoCard : Claim7 := { stood := { row := meanRightUptoRow, standIns := [], harness := (true, "f6bb5fafaba33c4d1a8cfe921b0eb4cb5c71bc7ec9f59a50f8603c3413802f43"), looks := true }, kinds := [], alts := [], laidByText := true, laidKinds := [.data, .data, .data, .data, .sentinel, .sentinel, .listed, .data, .pinned], laidTests := true, laidLooks := .later }
def MeanRightUptoCardSaid : Prop := Claim7.holds Tryz.pinned (.plain (OpenSpec.upto meanRightSpec)) meanRightUptoCard

/-- THE SECOND FORM's CARD OF 'trestlelaw04.TreeFiles'. -/
def treeFilesUptoCard : Claim7 := { stood := { row := treeFilesUptoRow, standIns := [], harness := (true, "f6bb5fafaba33c4d1a8cfe921b0eb4cb5c71bc7ec9f59a50f8603c3413802f43"), looks := true }, kinds := [], alts := [], laidByText := true, laidKinds := [.data, .data, .data, .data, .sentinel, .sentinel, .pinned], laidTests := true, laidLooks := .later }
def TreeFilesUptoCardSaid : Prop := Claim7.holds Tryz.pinned (.plain (OpenSpec.upto treeFilesSpec)) treeFilesUptoCard
end Rows
end Go.Proofs.YthkaehnhdldbbaaGreatDoor
