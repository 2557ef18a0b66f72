/-
  DERIVED. GIVEN WITH THE SEED: THE CARDS: each row of YtnheahologecfaaGreatDoorRows.lean that lists a variable, with what it lists TIED to the program's text (the seventh form; the later family's looks); each row that meets fmt, with fmt's text TOLD by the authors' own Lean function (tested against real Go, not proved from fmt's source: count such statements apart). THE CARD IS WHAT COUNTS. Prove the row's statement (the work); the ties are given (YtnheahologecfaaGreatDoorTie.lean); close each card by the builder's one call (the guide's Derived/Test/ToyasCard.lean, 'card_holds'). Laid BY PROGRAM, IN A SANDBOX (cutbox-door.mjs). By AI agents, Wed Nov 11 2026. No macro, syntax, notation, axiom, sorry.
-/
import Derived.Test.YtnheahologecfaaGreatDoorRows
import GoSem.ClaimSeven
namespace Go.Proofs.YtnheahologecfaaGreatDoor
namespace Rows

/-- THE TIED CARD OF 'trestlelaw15.OpsApply'. -/
def opsApplyCard : Claim7 := { stood := { row := opsApplyRow, standIns := [], harness := (true, "2a4b7af44a682e6f82017ea906d030b2be1064d19d74fa2acac3fea7f5cd55ac"), looks := true }, kinds := [], alts := [], laidByText := true, laidKinds := [.data, .data, .data, .data, .sentinel, .sentinel, .listed, .data, .pinned], laidTests := true, laidLooks := .later }
def OpsApplyCardSaid : Prop := Claim7.holds Tryz.pinned (.plain (OpenSpec.ofChange opsApplySpec)) opsApplyCard

/-- THE TIED CARD OF 'trestlelaw04.TreeFiles'. -/
def treeFilesCard : Claim7 := { stood := { row := treeFilesRow, standIns := [], harness := (true, "2a4b7af44a682e6f82017ea906d030b2be1064d19d74fa2acac3fea7f5cd55ac"), looks := true }, kinds := [], alts := [], laidByText := true, laidKinds := [.data, .data, .data, .data, .sentinel, .sentinel, .pinned], laidTests := true, laidLooks := .later }
def TreeFilesCardSaid : Prop := Claim7.holds Tryz.pinned (.plain (OpenSpec.ofChange treeFilesSpec)) treeFilesCard

/-- THE TIED CARD OF 'trestlelaw06.BoxRuns'. -/
def boxRunsCard : Claim7 := { stood := { row := boxRunsRow, standIns := [], harness := (true, "2a4b7af44a682e6f82017ea906d030b2be1064d19d74fa2acac3fea7f5cd55ac"), looks := true }, kinds := [], alts := [], laidByText := true, laidKinds := [.data, .data, .data, .data, .sentinel, .sentinel, .listed, .data, .pinned], laidTests := true, laidLooks := .later }
def BoxRunsCardSaid : Prop := Claim7.holds Tryz.pinned (.plain (OpenSpec.ofChange boxRunsSpec)) boxRunsCard

/-- THE TIED CARD OF 'trestlelaw06.BoxRight'. -/
def boxRightCard : Claim7 := { stood := { row := boxRightRow, standIns := [], harness := (true, "2a4b7af44a682e6f82017ea906d030b2be1064d19d74fa2acac3fea7f5cd55ac"), looks := true }, kinds := [], alts := [], laidByText := true, laidKinds := [.data, .data, .data, .data, .sentinel, .sentinel, .listed, .data, .pinned], laidTests := true, laidLooks := .later }
def BoxRightCardSaid : Prop := Claim7.holds Tryz.pinned (.plain (OpenSpec.ofChange boxRightSpec)) boxRightCard

/-- THE TIED CARD OF 'trestlelaw06.BoxFuel'. -/
def boxFuelCard : Claim7 := { stood := { row := boxFuelRow, standIns := [], harness := (true, "2a4b7af44a682e6f82017ea906d030b2be1064d19d74fa2acac3fea7f5cd55ac"), looks := true }, kinds := [], alts := [], laidByText := true, laidKinds := [.data, .data, .data, .data, .sentinel, .sentinel, .listed, .data, .pinned], laidTests := true, laidLooks := .later }
def BoxFuelCardSaid : Prop := Claim7.holds Tryz.pinned (.plain (OpenSpec.ofChange boxFuelSpec)) boxFuelCard

/-- THE TIED CARD OF 'trestlelaw06.BoxNeeds'. -/
def boxNeedsCard : Claim7 := { stood := { row := boxNeedsRow, standIns := [], harness := (true, "2a4b7af44a682e6f82017ea906d030b2be1064d19d74fa2acac3fea7f5cd55ac"), looks := true }, kinds := [], alts := [], laidByText := true, laidKinds := [.data, .data, .data, .data, .sentinel, .sentinel, .listed, .data, .pinned], laidTests := true, laidLooks := .later }
def BoxNeedsCardSaid : Prop := Claim7.holds Tryz.pinned (.plain (OpenSpec.ofChange boxNeedsSpec)) boxNeedsCard

/-- THE TIED CARD OF 'trestlelaw06.BoxUpper'. -/
def boxUpperCard : Claim7 := { stood := { row := boxUpperRow, standIns := [], harness := (true, "2a4b7af44a682e6f82017ea906d030b2be1064d19d74fa2acac3fea7f5cd55ac"), looks := true }, kinds := [], alts := [], laidByText := true, laidKinds := [.data, .data, .data, .data, .sentinel, .sentinel, .listed, .data, .pinned], laidTests := true, laidLooks := .later }
def BoxUpperCardSaid : Prop := Claim7.holds Tryz.pinned (.plain (OpenSpec.ofChange boxUpperSpec)) boxUpperCard

/-- THE TIED CARD OF 'trestlelaw06.BoxSort'. -/
def boxSortCard : Claim7 := { stood := { row := boxSortRow, standIns := [], harness := (true, "2a4b7af44a682e6f82017ea906d030b2be1064d19d74fa2acac3fea7f5cd55ac"), looks := true }, kinds := [], alts := [], laidByText := true, laidKinds := [.data, .data, .data, .data, .sentinel, .sentinel, .listed, .data, .pinned], laidTests := true, laidLooks := .later }
def BoxSortCardSaid : Prop := Claim7.holds Tryz.pinned (.plain (OpenSpec.ofChange boxSortSpec)) boxSortCard

/-- THE TIED CARD OF 'trestlelaw06.BoxLoop'. -/
def boxLoopCard : Claim7 := { stood := { row := boxLoopRow, standIns := [], harness := (true, "2a4b7af44a682e6f82017ea906d030b2be1064d19d74fa2acac3fea7f5cd55ac"), looks := true }, kinds := [], alts := [], laidByText := true, laidKinds := [.data, .data, .data, .data, .sentinel, .sentinel, .listed, .data, .pinned], laidTests := true, laidLooks := .later }
def BoxLoopCardSaid : Prop := Claim7.holds Tryz.pinned (.plain (OpenSpec.ofChange boxLoopSpec)) boxLoopCard

/-- THE TIED CARD OF 'trestlelaw08.MeanSame'. -/
def meanSameCard : Claim7 := { stood := { row := meanSameRow, standIns := [], harness := (true, "2a4b7af44a682e6f82017ea906d030b2be1064d19d74fa2acac3fea7f5cd55ac"), looks := true }, kinds := [], alts := [], laidByText := true, laidKinds := [.data, .data, .data, .data, .sentinel, .sentinel, .listed, .data, .pinned], laidTests := true, laidLooks := .later }
def MeanSameCardSaid : Prop := Claim7.holds Tryz.pinned (.plain (OpenSpec.ofChange meanSameSpec)) meanSameCard

/-- THE TIED CARD OF 'trestlelaw08.MeanBelow'. -/
def meanBelowCard : Claim7 := { stood := { row := meanBelowRow, standIns := [], harness := (true, "2a4b7af44a682e6f82017ea906d030b2be1064d19d74fa2acac3fea7f5cd55ac"), looks := true }, kinds := [], alts := [], laidByText := true, laidKinds := [.data, .data, .data, .data, .sentinel, .sentinel, .listed, .data, .pinned], laidTests := true, laidLooks := .later }
def MeanBelowCardSaid : Prop := Claim7.holds Tryz.pinned (.plain (OpenSpec.ofChange meanBelowSpec)) meanBelowCard

/-- THE TIED CARD OF 'trestlelaw08.MeanRight'. -/
def meanRightCard : Claim7 := { stood := { row := meanRightRow, standIns := [], harness := (true, "2a4b7af44a682e6f82017ea906d030b2be1064d19d74fa2acac3fea7f5cd55ac"), looks := true }, kinds := [], alts := [], laidByText := true, laidKinds := [.data, .data, .data, .data, .sentinel, .sentinel, .listed, .data, .pinned], laidTests := true, laidLooks := .later }
def MeanRightCardSaid : Prop := Claim7.holds Tryz.pinned (.plain (OpenSpec.ofChange meanRightSpec)) meanRightCard

/-- THE SECOND FORM's CARD OF 'trestlelaw15.OpsApply'. -/
def opsApplyUptoCard : Claim7 := { stood := { row := opsApplyUptoRow, standIns := [], harness := (true, "2a4b7af44a682e6f82017ea906d030b2be1064d19d74fa2acac3fea7f5cd55ac"), looks := true }, kinds := [], alts := [], laidByText := true, laidKinds := [.data, .data, .data, .data, .sentinel, .sentinel, .listed, .data, .pinned], laidTests := true, laidLooks := .later }
def OpsApplyUptoCardSaid : Prop := Claim7.holds Tryz.pinned (.plain (OpenSpec.upto opsApplySpec)) opsApplyUptoCard

/-- THE SECOND FORM's CARD OF 'trestlelaw04.TreeFiles'. -/
def treeFilesUptoCard : Claim7 := { stood := { row := treeFilesUptoRow, standIns := [], harness := (true, "2a4b7af44a682e6f82017ea906d030b2be1064d19d74fa2acac3fea7f5cd55ac"), looks := true }, kinds := [], alts := [], laidByText := true, laidKinds := [.data, .data, .data, .data, .sentinel, .sentinel, .pinned], laidTests := true, laidLooks := .later }
def TreeFilesUptoCardSaid : Prop := Claim7.holds Tryz.pinned (.plain (OpenSpec.upto treeFilesSpec)) treeFilesUptoCard

/-- THE SECOND FORM's CARD OF 'trestlelaw06.BoxRuns'. -/
def boxRunsUptoCard : Claim7 := { stood := { row := boxRunsUptoRow, standIns := [], harness := (true, "2a4b7af44a682e6f82017ea906d030b2be1064d19d74fa2acac3fea7f5cd55ac"), looks := true }, kinds := [], alts := [], laidByText := true, laidKinds := [.data, .data, .data, .data, .sentinel, .sentinel, .listed, .data, .pinned], laidTests := true, laidLooks := .later }
def BoxRunsUptoCardSaid : Prop := Claim7.holds Tryz.pinned (.plain (OpenSpec.upto boxRunsSpec)) boxRunsUptoCard

/-- THE SECOND FORM's CARD OF 'trestlelaw06.BoxRight'. -/
def boxRightUptoCard : Claim7 := { stood := { row := boxRightUptoRow, standIns := [], harness := (true, "2a4b7af44a682e6f82017ea906d030b2be1064d19d74fa2acac3fea7f5cd55ac"), looks := true }, kinds := [], alts := [], laidByText := true, laidKinds := [.data, .data, .data, .data, .sentinel, .sentinel, .listed, .data, .pinned], laidTests := true, laidLooks := .later }
def BoxRightUptoCardSaid : Prop := Claim7.holds Tryz.pinned (.plain (OpenSpec.upto boxRightSpec)) boxRightUptoCard

/-- THE SECOND FORM's CARD OF 'trestlelaw06.BoxFuel'. -/
def boxFuelUptoCard : Claim7 := { stood := { row := boxFuelUptoRow, standIns := [], harness := (true, "2a4b7af44a682e6f82017ea906d030b2be1064d19d74fa2acac3fea7f5cd55ac"), looks := true }, kinds := [], alts := [], laidByText := true, laidKinds := [.data, .data, .data, .data, .sentinel, .sentinel, .listed, .data, .pinned], laidTests := true, laidLooks := .later }
def BoxFuelUptoCardSaid : Prop := Claim7.holds Tryz.pinned (.plain (OpenSpec.upto boxFuelSpec)) boxFuelUptoCard

/-- THE SECOND FORM's CARD OF 'trestlelaw06.BoxNeeds'. -/
def boxNeedsUptoCard : Claim7 := { stood := { row := boxNeedsUptoRow, standIns := [], harness := (true, "2a4b7af44a682e6f82017ea906d030b2be1064d19d74fa2acac3fea7f5cd55ac"), looks := true }, kinds := [], alts := [], laidByText := true, laidKinds := [.data, .data, .data, .data, .sentinel, .sentinel, .listed, .data, .pinned], laidTests := true, laidLooks := .later }
def BoxNeedsUptoCardSaid : Prop := Claim7.holds Tryz.pinned (.plain (OpenSpec.upto boxNeedsSpec)) boxNeedsUptoCard

/-- THE SECOND FORM's CARD OF 'trestlelaw06.BoxUpper'. -/
def boxUpperUptoCard : Claim7 := { stood := { row := boxUpperUptoRow, standIns := [], harness := (true, "2a4b7af44a682e6f82017ea906d030b2be1064d19d74fa2acac3fea7f5cd55ac"), looks := true }, kinds := [], alts := [], laidByText := true, laidKinds := [.data, .data, .data, .data, .sentinel, .sentinel, .listed, .data, .pinned], laidTests := true, laidLooks := .later }
def BoxUpperUptoCardSaid : Prop := Claim7.holds Tryz.pinned (.plain (OpenSpec.upto boxUpperSpec)) boxUpperUptoCard

/-- THE SECOND FORM's CARD OF 'trestlelaw06.BoxSort'. -/
def boxSortUptoCard : Claim7 := { stood := { row := boxSortUptoRow, standIns := [], harness := (true, "2a4b7af44a682e6f82017ea906d030b2be1064d19d74fa2acac3fea7f5cd55ac"), looks := true }, kinds := [], alts := [], laidByText := true, laidKinds := [.data, .data, .data, .data, .sentinel, .sentinel, .listed, .data, .pinned], laidTests := true, laidLooks := .later }
def BoxSortUptoCardSaid : Prop := Claim7.holds Tryz.pinned (.plain (OpenSpec.upto boxSortSpec)) boxSortUptoCard

/-- THE SECOND FORM's CARD OF 'trestlelaw06.BoxLoop'. -/
def boxLoopUptoCard : Claim7 := { stood := { row := boxLoopUptoRow, standIns := [], harness := (true, "2a4b7af44a682e6f82017ea906d030b2be1064d19d74fa2acac3fea7f5cd55ac"), looks := true }, kinds := [], alts := [], laidByText := true, laidKinds := [.data, .data, .data, .data, .sentinel, .sentinel, .listed, .data, .pinned], laidTests := true, laidLooks := .later }
def BoxLoopUptoCardSaid : Prop := Claim7.holds Tryz.pinned (.plain (OpenSpec.upto boxLoopSpec)) boxLoopUptoCard

/-- THE SECOND FORM's CARD OF 'trestlelaw08.MeanSame'. -/
def meanSameUptoCard : Claim7 := { stood := { row := meanSameUptoRow, standIns := [], harness := (true, "2a4b7af44a682e6f82017ea906d030b2be1064d19d74fa2acac3fea7f5cd55ac"), looks := true }, kinds := [], alts := [], laidByText := true, laidKinds := [.data, .data, .data, .data, .sentinel, .sentinel, .listed, .data, .pinned], laidTests := true, laidLooks := .later }
def MeanSameUptoCardSaid : Prop := Claim7.holds Tryz.pinned (.plain (OpenSpec.upto meanSameSpec)) meanSameUptoCard

/-- THE SECOND FORM's CARD OF 'trestlelaw08.MeanBelow'. -/
def meanBelowUptoCard : Claim7 := { stood := { row := meanBelowUptoRow, standIns := [], harness := (true, "2a4b7af44a682e6f82017ea906d030b2be1064d19d74fa2acac3fea7f5cd55ac"), looks := true }, kinds := [], alts := [], laidByText := true, laidKinds := [.data, .data, .data, .data, .sentinel, .sentinel, .listed, .data, .pinned], laidTests := true, laidLooks := .later }
def MeanBelowUptoCardSaid : Prop := Claim7.holds Tryz.pinned (.plain (OpenSpec.upto meanBelowSpec)) meanBelowUptoCard

/-- THE SECOND FORM's CARD OF 'trestlelaw08.MeanRight'. -/
def meanRightUptoCard : Claim7 := { stood := { row := meanRightUptoRow, standIns := [], harness := (true, "2a4b7af44a682e6f82017ea906d030b2be1064d19d74fa2acac3fea7f5cd55ac"), looks := true }, kinds := [], alts := [], laidByText := true, laidKinds := [.data, .data, .data, .data, .sentinel, .sentinel, .listed, .data, .pinned], laidTests := true, laidLooks := .later }
def MeanRightUptoCardSaid : Prop := Claim7.holds Tryz.pinned (.plain (OpenSpec.upto meanRightSpec)) meanRightUptoCard
end Rows
end Go.Proofs.YtnheahologecfaaGreatDoor
