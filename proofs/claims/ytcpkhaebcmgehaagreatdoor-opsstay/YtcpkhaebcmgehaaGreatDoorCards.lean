/-
  DERIVED. GIVEN WITH THE SEED: THE CARDS: each row of YtcpkhaebcmgehaaGreatDoorRows.lean that lists a variable, with what it lists TIED to the program's text (the seventh form; the later family's looks); each row that meets fmt, with fmt's text TOLD by the authors' own Lean function (tested against real Go, not proved from fmt's source: count such statements apart). THE CARD IS WHAT COUNTS. Prove the row's statement (the work); the ties are given (YtcpkhaebcmgehaaGreatDoorTie.lean); close each card by the builder's one call (the guide's Derived/Test/ToyasCard.lean, 'card_holds'). Laid BY PROGRAM, IN A SANDBOX (cutbox-door.mjs). By AI agents, Wed Nov 11 2026. No macro, syntax, notation, axiom, sorry.
-/
import Derived.Test.YtcpkhaebcmgehaaGreatDoorRows
import GoSem.ClaimSeven
namespace Go.Proofs.YtcpkhaebcmgehaaGreatDoor
namespace Rows

/-- THE TIED CARD OF 'trestlelaw09.KeysAction'. -/
def keysActionCard : Claim7 := { stood := { row := keysActionRow, standIns := [], harness := (true, "ee1254d9f7f090e5a512dfa824581eff4106e8d3c1196597043ebf7dbf89f2ae"), looks := true }, kinds := [], alts := [], laidByText := true, laidKinds := [.data, .data, .data, .sentinel, .sentinel], laidTests := true, laidLooks := .later }
def KeysActionCardSaid : Prop := Claim7.holds Tryz.pinned (.plain (OpenSpec.ofChange keysActionSpec)) keysActionCard

/-- THE TIED CARD OF 'trestlelaw09.KeysDigests'. -/
def keysDigestsCard : Claim7 := { stood := { row := keysDigestsRow, standIns := [], harness := (true, "ee1254d9f7f090e5a512dfa824581eff4106e8d3c1196597043ebf7dbf89f2ae"), looks := true }, kinds := [], alts := [], laidByText := true, laidKinds := [.data, .data, .data, .sentinel, .sentinel], laidTests := true, laidLooks := .later }
def KeysDigestsCardSaid : Prop := Claim7.holds Tryz.pinned (.plain (OpenSpec.ofChange keysDigestsSpec)) keysDigestsCard

/-- THE TIED CARD OF 'trestlelaw15.OpsApply'. -/
def opsApplyCard : Claim7 := { stood := { row := opsApplyRow, standIns := [], harness := (true, "ee1254d9f7f090e5a512dfa824581eff4106e8d3c1196597043ebf7dbf89f2ae"), looks := true }, kinds := [], alts := [], laidByText := true, laidKinds := [.data, .data, .data, .data, .sentinel, .sentinel, .listed, .data, .pinned], laidTests := true, laidLooks := .later }
def OpsApplyCardSaid : Prop := Claim7.holds Tryz.pinned (.plain (OpenSpec.ofChange opsApplySpec)) opsApplyCard

/-- THE TIED CARD OF 'trestlelaw15.OpsFind'. -/
def opsFindCard : Claim7 := { stood := { row := opsFindRow, standIns := [], harness := (true, "ee1254d9f7f090e5a512dfa824581eff4106e8d3c1196597043ebf7dbf89f2ae"), looks := true }, kinds := [], alts := [], laidByText := true, laidKinds := [.data, .data, .data, .data, .sentinel, .sentinel, .listed, .data, .pinned], laidTests := true, laidLooks := .later }
def OpsFindCardSaid : Prop := Claim7.holds Tryz.pinned (.plain (OpenSpec.ofChange opsFindSpec)) opsFindCard

/-- THE TIED CARD OF 'trestlelaw15.OpsFinds'. -/
def opsFindsCard : Claim7 := { stood := { row := opsFindsRow, standIns := [], harness := (true, "ee1254d9f7f090e5a512dfa824581eff4106e8d3c1196597043ebf7dbf89f2ae"), looks := true }, kinds := [], alts := [], laidByText := true, laidKinds := [.data, .data, .data, .data, .sentinel, .sentinel, .listed, .data, .pinned], laidTests := true, laidLooks := .later }
def OpsFindsCardSaid : Prop := Claim7.holds Tryz.pinned (.plain (OpenSpec.ofChange opsFindsSpec)) opsFindsCard

/-- THE TIED CARD OF 'trestlelaw15.OpsStay'. -/
def opsStayCard : Claim7 := { stood := { row := opsStayRow, standIns := [], harness := (true, "ee1254d9f7f090e5a512dfa824581eff4106e8d3c1196597043ebf7dbf89f2ae"), looks := true }, kinds := [], alts := [], laidByText := true, laidKinds := [.data, .data, .data, .data, .sentinel, .sentinel, .listed, .data, .pinned], laidTests := true, laidLooks := .later }
def OpsStayCardSaid : Prop := Claim7.holds Tryz.pinned (.plain (OpenSpec.ofChange opsStaySpec)) opsStayCard

/-- THE TIED CARD OF 'trestlelaw15.OpsAgain'. -/
def opsAgainCard : Claim7 := { stood := { row := opsAgainRow, standIns := [], harness := (true, "ee1254d9f7f090e5a512dfa824581eff4106e8d3c1196597043ebf7dbf89f2ae"), looks := true }, kinds := [], alts := [], laidByText := true, laidKinds := [.data, .data, .data, .data, .sentinel, .sentinel, .listed, .data, .pinned], laidTests := true, laidLooks := .later }
def OpsAgainCardSaid : Prop := Claim7.holds Tryz.pinned (.plain (OpenSpec.ofChange opsAgainSpec)) opsAgainCard

/-- THE TIED CARD OF 'trestlelaw15.OpsSame'. -/
def opsSameCard : Claim7 := { stood := { row := opsSameRow, standIns := [], harness := (true, "ee1254d9f7f090e5a512dfa824581eff4106e8d3c1196597043ebf7dbf89f2ae"), looks := true }, kinds := [], alts := [], laidByText := true, laidKinds := [.data, .data, .data, .data, .sentinel, .sentinel, .listed, .data, .pinned], laidTests := true, laidLooks := .later }
def OpsSameCardSaid : Prop := Claim7.holds Tryz.pinned (.plain (OpenSpec.ofChange opsSameSpec)) opsSameCard

/-- THE TIED CARD OF 'trestlelaw04.TreeFiles'. -/
def treeFilesCard : Claim7 := { stood := { row := treeFilesRow, standIns := [], harness := (true, "ee1254d9f7f090e5a512dfa824581eff4106e8d3c1196597043ebf7dbf89f2ae"), looks := true }, kinds := [], alts := [], laidByText := true, laidKinds := [.data, .data, .data, .data, .sentinel, .sentinel, .pinned], laidTests := true, laidLooks := .later }
def TreeFilesCardSaid : Prop := Claim7.holds Tryz.pinned (.plain (OpenSpec.ofChange treeFilesSpec)) treeFilesCard

/-- THE SECOND FORM's CARD OF 'trestlelaw09.KeysAction'. -/
def keysActionUptoCard : Claim7 := { stood := { row := keysActionUptoRow, standIns := [], harness := (true, "ee1254d9f7f090e5a512dfa824581eff4106e8d3c1196597043ebf7dbf89f2ae"), looks := true }, kinds := [], alts := [], laidByText := true, laidKinds := [.data, .data, .data, .sentinel, .sentinel], laidTests := true, laidLooks := .later }
def KeysActionUptoCardSaid : Prop := Claim7.holds Tryz.pinned (.plain (OpenSpec.upto keysActionSpec)) keysActionUptoCard

/-- THE SECOND FORM's CARD OF 'trestlelaw09.KeysDigests'. -/
def keysDigestsUptoCard : Claim7 := { stood := { row := keysDigestsUptoRow, standIns := [], harness := (true, "ee1254d9f7f090e5a512dfa824581eff4106e8d3c1196597043ebf7dbf89f2ae"), looks := true }, kinds := [], alts := [], laidByText := true, laidKinds := [.data, .data, .data, .sentinel, .sentinel], laidTests := true, laidLooks := .later }
def KeysDigestsUptoCardSaid : Prop := Claim7.holds Tryz.pinned (.plain (OpenSpec.upto keysDigestsSpec)) keysDigestsUptoCard

/-- THE SECOND FORM's CARD OF 'trestlelaw15.OpsApply'. -/
def opsApplyUptoCard : Claim7 := { stood := { row := opsApplyUptoRow, standIns := [], harness := (true, "ee1254d9f7f090e5a512dfa824581eff4106e8d3c1196597043ebf7dbf89f2ae"), looks := true }, kinds := [], alts := [], laidByText := true, laidKinds := [.data, .data, .data, .data, .sentinel, .sentinel, .listed, .data, .pinned], laidTests := true, laidLooks := .later }
def OpsApplyUptoCardSaid : Prop := Claim7.holds Tryz.pinned (.plain (OpenSpec.upto opsApplySpec)) opsApplyUptoCard

/-- THE SECOND FORM's CARD OF 'trestlelaw15.OpsFind'. -/
def opsFindUptoCard : Claim7 := { stood := { row := opsFindUptoRow, standIns := [], harness := (true, "ee1254d9f7f090e5a512dfa824581eff4106e8d3c1196597043ebf7dbf89f2ae"), looks := true }, kinds := [], alts := [], laidByText := true, laidKinds := [.data, .data, .data, .data, .sentinel, .sentinel, .listed, .data, .pinned], laidTests := true, laidLooks := .later }
def OpsFindUptoCardSaid : Prop := Claim7.holds Tryz.pinned (.plain (OpenSpec.upto opsFindSpec)) opsFindUptoCard

/-- THE SECOND FORM's CARD OF 'trestlelaw15.OpsFinds'. -/
def opsFindsUptoCard : Claim7 := { stood := { row := opsFindsUptoRow, standIns := [], harness := (true, "ee1254d9f7f090e5a512dfa824581eff4106e8d3c1196597043ebf7dbf89f2ae"), looks := true }, kinds := [], alts := [], laidByText := true, laidKinds := [.data, .data, .data, .data, .sentinel, .sentinel, .listed, .data, .pinned], laidTests := true, laidLooks := .later }
def OpsFindsUptoCardSaid : Prop := Claim7.holds Tryz.pinned (.plain (OpenSpec.upto opsFindsSpec)) opsFindsUptoCard

/-- THE SECOND FORM's CARD OF 'trestlelaw15.OpsStay'. -/
def opsStayUptoCard : Claim7 := { stood := { row := opsStayUptoRow, standIns := [], harness := (true, "ee1254d9f7f090e5a512dfa824581eff4106e8d3c1196597043ebf7dbf89f2ae"), looks := true }, kinds := [], alts := [], laidByText := true, laidKinds := [.data, .data, .data, .data, .sentinel, .sentinel, .listed, .data, .pinned], laidTests := true, laidLooks := .later }
def OpsStayUptoCardSaid : Prop := Claim7.holds Tryz.pinned (.plain (OpenSpec.upto opsStaySpec)) opsStayUptoCard

/-- THE SECOND FORM's CARD OF 'trestlelaw15.OpsAgain'. -/
def opsAgainUptoCard : Claim7 := { stood := { row := opsAgainUptoRow, standIns := [], harness := (true, "ee1254d9f7f090e5a512dfa824581eff4106e8d3c1196597043ebf7dbf89f2ae"), looks := true }, kinds := [], alts := [], laidByText := true, laidKinds := [.data, .data, .data, .data, .sentinel, .sentinel, .listed, .data, .pinned], laidTests := true, laidLooks := .later }
def OpsAgainUptoCardSaid : Prop := Claim7.holds Tryz.pinned (.plain (OpenSpec.upto opsAgainSpec)) opsAgainUptoCard

/-- THE SECOND FORM's CARD OF 'trestlelaw15.OpsSame'. -/
def opsSameUptoCard : Claim7 := { stood := { row := opsSameUptoRow, standIns := [], harness := (true, "ee1254d9f7f090e5a512dfa824581eff4106e8d3c1196597043ebf7dbf89f2ae"), looks := true }, kinds := [], alts := [], laidByText := true, laidKinds := [.data, .data, .data, .data, .sentinel, .sentinel, .listed, .data, .pinned], laidTests := true, laidLooks := .later }
def OpsSameUptoCardSaid : Prop := Claim7.holds Tryz.pinned (.plain (OpenSpec.upto opsSameSpec)) opsSameUptoCard

/-- THE SECOND FORM's CARD OF 'trestlelaw04.TreeFiles'. -/
def treeFilesUptoCard : Claim7 := { stood := { row := treeFilesUptoRow, standIns := [], harness := (true, "ee1254d9f7f090e5a512dfa824581eff4106e8d3c1196597043ebf7dbf89f2ae"), looks := true }, kinds := [], alts := [], laidByText := true, laidKinds := [.data, .data, .data, .data, .sentinel, .sentinel, .pinned], laidTests := true, laidLooks := .later }
def TreeFilesUptoCardSaid : Prop := Claim7.holds Tryz.pinned (.plain (OpenSpec.upto treeFilesSpec)) treeFilesUptoCard
end Rows
end Go.Proofs.YtcpkhaebcmgehaaGreatDoor
