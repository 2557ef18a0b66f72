/-
  DERIVED. GIVEN WITH THE SEED: THE CARDS: each row of YtglenhlhkgjnbaaGreatDoorRows.lean that lists a variable, with what it lists TIED to the program's text (the seventh form; the later family's looks); each row that meets fmt, with fmt's text TOLD by the authors' own Lean function (tested against real Go, not proved from fmt's source: count such statements apart). THE CARD IS WHAT COUNTS. Prove the row's statement (the work); the ties are given (YtglenhlhkgjnbaaGreatDoorTie.lean); close each card by the builder's one call (the guide's Derived/Test/ToyasCard.lean, 'card_holds'). Laid BY PROGRAM, IN A SANDBOX (cutbox-door.mjs). By AI agents, Wed Nov 11 2026. No macro, syntax, notation, axiom, sorry.
-/
import Derived.Test.YtglenhlhkgjnbaaGreatDoorRows
import GoSem.ClaimSeven
namespace Go.Proofs.YtglenhlhkgjnbaaGreatDoor
namespace Rows

/-- THE TIED CARD OF 'trestlelaw04.TreeDirs'. -/
def treeDirsCard : Claim7 := { stood := { row := treeDirsRow, standIns := [], harness := (true, "5897a1e6ef74ec237585c8588a20f477acffef6fe65a7cac93800baccacdb75e"), looks := true }, kinds := [], alts := [], laidByText := true, laidKinds := [.data, .data, .data, .data, .sentinel, .sentinel, .pinned], laidTests := true, laidLooks := .later }
def TreeDirsCardSaid : Prop := Claim7.holds Tryz.pinned (.plain (OpenSpec.ofChange treeDirsSpec)) treeDirsCard

/-- THE TIED CARD OF 'trestlelaw04.TreeEncodes'. -/
def treeEncodesCard : Claim7 := { stood := { row := treeEncodesRow, standIns := [], harness := (true, "5897a1e6ef74ec237585c8588a20f477acffef6fe65a7cac93800baccacdb75e"), looks := true }, kinds := [], alts := [], laidByText := true, laidKinds := [.data, .data, .data, .data, .sentinel, .sentinel, .pinned], laidTests := true, laidLooks := .later }
def TreeEncodesCardSaid : Prop := Claim7.holds Tryz.pinned (.plain (OpenSpec.ofChange treeEncodesSpec)) treeEncodesCard

/-- THE TIED CARD OF 'trestlelaw04.TreeDecodes'. -/
def treeDecodesCard : Claim7 := { stood := { row := treeDecodesRow, standIns := [], harness := (true, "5897a1e6ef74ec237585c8588a20f477acffef6fe65a7cac93800baccacdb75e"), looks := true }, kinds := [], alts := [], laidByText := true, laidKinds := [.data, .data, .data, .data, .sentinel, .sentinel, .pinned], laidTests := true, laidLooks := .later }
def TreeDecodesCardSaid : Prop := Claim7.holds Tryz.pinned (.plain (OpenSpec.ofChange treeDecodesSpec)) treeDecodesCard

/-- THE TIED CARD OF 'trestlelaw04.TreeFiles'. -/
def treeFilesCard : Claim7 := { stood := { row := treeFilesRow, standIns := [], harness := (true, "5897a1e6ef74ec237585c8588a20f477acffef6fe65a7cac93800baccacdb75e"), looks := true }, kinds := [], alts := [], laidByText := true, laidKinds := [.data, .data, .data, .data, .sentinel, .sentinel, .pinned], laidTests := true, laidLooks := .later }
def TreeFilesCardSaid : Prop := Claim7.holds Tryz.pinned (.plain (OpenSpec.ofChange treeFilesSpec)) treeFilesCard

/-- THE TIED CARD OF 'trestlelaw04.TreeDigests'. -/
def treeDigestsCard : Claim7 := { stood := { row := treeDigestsRow, standIns := [], harness := (true, "5897a1e6ef74ec237585c8588a20f477acffef6fe65a7cac93800baccacdb75e"), looks := true }, kinds := [], alts := [], laidByText := true, laidKinds := [.data, .data, .data, .data, .sentinel, .sentinel, .pinned], laidTests := true, laidLooks := .later }
def TreeDigestsCardSaid : Prop := Claim7.holds Tryz.pinned (.plain (OpenSpec.ofChange treeDigestsSpec)) treeDigestsCard

/-- THE TIED CARD OF 'trestlelaw04.TreeDigest'. -/
def treeDigestCard : Claim7 := { stood := { row := treeDigestRow, standIns := [], harness := (true, "5897a1e6ef74ec237585c8588a20f477acffef6fe65a7cac93800baccacdb75e"), looks := true }, kinds := [], alts := [], laidByText := true, laidKinds := [.data, .data, .data, .data, .sentinel, .sentinel, .pinned], laidTests := true, laidLooks := .later }
def TreeDigestCardSaid : Prop := Claim7.holds Tryz.pinned (.plain (OpenSpec.ofChange treeDigestSpec)) treeDigestCard

/-- THE TIED CARD OF 'trestlelaw04.TreeDir'. -/
def treeDirCard : Claim7 := { stood := { row := treeDirRow, standIns := [], harness := (true, "5897a1e6ef74ec237585c8588a20f477acffef6fe65a7cac93800baccacdb75e"), looks := true }, kinds := [], alts := [], laidByText := true, laidKinds := [.data, .data, .data, .data, .sentinel, .sentinel, .pinned], laidTests := true, laidLooks := .later }
def TreeDirCardSaid : Prop := Claim7.holds Tryz.pinned (.plain (OpenSpec.ofChange treeDirSpec)) treeDirCard

/-- THE TIED CARD OF 'trestlelaw04.TreeBlobs'. -/
def treeBlobsCard : Claim7 := { stood := { row := treeBlobsRow, standIns := [], harness := (true, "5897a1e6ef74ec237585c8588a20f477acffef6fe65a7cac93800baccacdb75e"), looks := true }, kinds := [], alts := [], laidByText := true, laidKinds := [.data, .data, .data, .data, .sentinel, .sentinel, .pinned], laidTests := true, laidLooks := .later }
def TreeBlobsCardSaid : Prop := Claim7.holds Tryz.pinned (.plain (OpenSpec.ofChange treeBlobsSpec)) treeBlobsCard

/-- THE TIED CARD OF 'trestlelaw09.KeysAction'. -/
def keysActionCard : Claim7 := { stood := { row := keysActionRow, standIns := [], harness := (true, "5897a1e6ef74ec237585c8588a20f477acffef6fe65a7cac93800baccacdb75e"), looks := true }, kinds := [], alts := [], laidByText := true, laidKinds := [.data, .data, .data, .sentinel, .sentinel], laidTests := true, laidLooks := .later }
def KeysActionCardSaid : Prop := Claim7.holds Tryz.pinned (.plain (OpenSpec.ofChange keysActionSpec)) keysActionCard

/-- THE TIED CARD OF 'trestlelaw09.KeysDigests'. -/
def keysDigestsCard : Claim7 := { stood := { row := keysDigestsRow, standIns := [], harness := (true, "5897a1e6ef74ec237585c8588a20f477acffef6fe65a7cac93800baccacdb75e"), looks := true }, kinds := [], alts := [], laidByText := true, laidKinds := [.data, .data, .data, .sentinel, .sentinel], laidTests := true, laidLooks := .later }
def KeysDigestsCardSaid : Prop := Claim7.holds Tryz.pinned (.plain (OpenSpec.ofChange keysDigestsSpec)) keysDigestsCard

/-- THE SECOND FORM's CARD OF 'trestlelaw04.TreeDirs'. -/
def treeDirsUptoCard : Claim7 := { stood := { row := treeDirsUptoRow, standIns := [], harness := (true, "5897a1e6ef74ec237585c8588a20f477acffef6fe65a7cac93800baccacdb75e"), looks := true }, kinds := [], alts := [], laidByText := true, laidKinds := [.data, .data, .data, .data, .sentinel, .sentinel, .pinned], laidTests := true, laidLooks := .later }
def TreeDirsUptoCardSaid : Prop := Claim7.holds Tryz.pinned (.plain (OpenSpec.upto treeDirsSpec)) treeDirsUptoCard

/-- THE SECOND FORM's CARD OF 'trestlelaw04.TreeEncodes'. -/
def treeEncodesUptoCard : Claim7 := { stood := { row := treeEncodesUptoRow, standIns := [], harness := (true, "5897a1e6ef74ec237585c8588a20f477acffef6fe65a7cac93800baccacdb75e"), looks := true }, kinds := [], alts := [], laidByText := true, laidKinds := [.data, .data, .data, .data, .sentinel, .sentinel, .pinned], laidTests := true, laidLooks := .later }
def TreeEncodesUptoCardSaid : Prop := Claim7.holds Tryz.pinned (.plain (OpenSpec.upto treeEncodesSpec)) treeEncodesUptoCard

/-- THE SECOND FORM's CARD OF 'trestlelaw04.TreeDecodes'. -/
def treeDecodesUptoCard : Claim7 := { stood := { row := treeDecodesUptoRow, standIns := [], harness := (true, "5897a1e6ef74ec237585c8588a20f477acffef6fe65a7cac93800baccacdb75e"), looks := true }, kinds := [], alts := [], laidByText := true, laidKinds := [.data, .data, .data, .data, .sentinel, .sentinel, .pinned], laidTests := true, laidLooks := .later }
def TreeDecodesUptoCardSaid : Prop := Claim7.holds Tryz.pinned (.plain (OpenSpec.upto treeDecodesSpec)) treeDecodesUptoCard

/-- THE SECOND FORM's CARD OF 'trestlelaw04.TreeFiles'. -/
def treeFilesUptoCard : Claim7 := { stood := { row := treeFilesUptoRow, standIns := [], harness := (true, "5897a1e6ef74ec237585c8588a20f477acffef6fe65a7cac93800baccacdb75e"), looks := true }, kinds := [], alts := [], laidByText := true, laidKinds := [.data, .data, .data, .data, .sentinel, .sentinel, .pinned], laidTests := true, laidLooks := .later }
def TreeFilesUptoCardSaid : Prop := Claim7.holds Tryz.pinned (.plain (OpenSpec.upto treeFilesSpec)) treeFilesUptoCard

/-- THE SECOND FORM's CARD OF 'trestlelaw04.TreeDigests'. -/
def treeDigestsUptoCard : Claim7 := { stood := { row := treeDigestsUptoRow, standIns := [], harness := (true, "5897a1e6ef74ec237585c8588a20f477acffef6fe65a7cac93800baccacdb75e"), looks := true }, kinds := [], alts := [], laidByText := true, laidKinds := [.data, .data, .data, .data, .sentinel, .sentinel, .pinned], laidTests := true, laidLooks := .later }
def TreeDigestsUptoCardSaid : Prop := Claim7.holds Tryz.pinned (.plain (OpenSpec.upto treeDigestsSpec)) treeDigestsUptoCard

/-- THE SECOND FORM's CARD OF 'trestlelaw04.TreeDigest'. -/
def treeDigestUptoCard : Claim7 := { stood := { row := treeDigestUptoRow, standIns := [], harness := (true, "5897a1e6ef74ec237585c8588a20f477acffef6fe65a7cac93800baccacdb75e"), looks := true }, kinds := [], alts := [], laidByText := true, laidKinds := [.data, .data, .data, .data, .sentinel, .sentinel, .pinned], laidTests := true, laidLooks := .later }
def TreeDigestUptoCardSaid : Prop := Claim7.holds Tryz.pinned (.plain (OpenSpec.upto treeDigestSpec)) treeDigestUptoCard

/-- THE SECOND FORM's CARD OF 'trestlelaw04.TreeDir'. -/
def treeDirUptoCard : Claim7 := { stood := { row := treeDirUptoRow, standIns := [], harness := (true, "5897a1e6ef74ec237585c8588a20f477acffef6fe65a7cac93800baccacdb75e"), looks := true }, kinds := [], alts := [], laidByText := true, laidKinds := [.data, .data, .data, .data, .sentinel, .sentinel, .pinned], laidTests := true, laidLooks := .later }
def TreeDirUptoCardSaid : Prop := Claim7.holds Tryz.pinned (.plain (OpenSpec.upto treeDirSpec)) treeDirUptoCard

/-- THE SECOND FORM's CARD OF 'trestlelaw04.TreeBlobs'. -/
def treeBlobsUptoCard : Claim7 := { stood := { row := treeBlobsUptoRow, standIns := [], harness := (true, "5897a1e6ef74ec237585c8588a20f477acffef6fe65a7cac93800baccacdb75e"), looks := true }, kinds := [], alts := [], laidByText := true, laidKinds := [.data, .data, .data, .data, .sentinel, .sentinel, .pinned], laidTests := true, laidLooks := .later }
def TreeBlobsUptoCardSaid : Prop := Claim7.holds Tryz.pinned (.plain (OpenSpec.upto treeBlobsSpec)) treeBlobsUptoCard

/-- THE SECOND FORM's CARD OF 'trestlelaw09.KeysAction'. -/
def keysActionUptoCard : Claim7 := { stood := { row := keysActionUptoRow, standIns := [], harness := (true, "5897a1e6ef74ec237585c8588a20f477acffef6fe65a7cac93800baccacdb75e"), looks := true }, kinds := [], alts := [], laidByText := true, laidKinds := [.data, .data, .data, .sentinel, .sentinel], laidTests := true, laidLooks := .later }
def KeysActionUptoCardSaid : Prop := Claim7.holds Tryz.pinned (.plain (OpenSpec.upto keysActionSpec)) keysActionUptoCard

/-- THE SECOND FORM's CARD OF 'trestlelaw09.KeysDigests'. -/
def keysDigestsUptoCard : Claim7 := { stood := { row := keysDigestsUptoRow, standIns := [], harness := (true, "5897a1e6ef74ec237585c8588a20f477acffef6fe65a7cac93800baccacdb75e"), looks := true }, kinds := [], alts := [], laidByText := true, laidKinds := [.data, .data, .data, .sentinel, .sentinel], laidTests := true, laidLooks := .later }
def KeysDigestsUptoCardSaid : Prop := Claim7.holds Tryz.pinned (.plain (OpenSpec.upto keysDigestsSpec)) keysDigestsUptoCard
end Rows
end Go.Proofs.YtglenhlhkgjnbaaGreatDoor
