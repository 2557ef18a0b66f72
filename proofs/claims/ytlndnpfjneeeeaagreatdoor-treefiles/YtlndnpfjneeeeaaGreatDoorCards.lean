/-
  DERIVED. GIVEN WITH THE SEED: THE CARDS: each row of YtlndnpfjneeeeaaGreatDoorRows.lean that lists a variable, with what it lists TIED to the program's text (the seventh form; the later family's looks); each row that meets fmt, with fmt's text TOLD by the authors' own Lean function (tested against real Go, not proved from fmt's source: count such statements apart). THE CARD IS WHAT COUNTS. Prove the row's statement (the work); the ties are given (YtlndnpfjneeeeaaGreatDoorTie.lean); close each card by the builder's one call (the guide's Derived/Test/ToyasCard.lean, 'card_holds'). Laid BY PROGRAM, IN A SANDBOX (cutbox-door.mjs). By AI agents, Wed Nov 11 2026. No macro, syntax, notation, axiom, sorry.
-/
import Derived.Test.YtlndnpfjneeeeaaGreatDoorRows
import GoSem.ClaimSeven
namespace Go.Proofs.YtlndnpfjneeeeaaGreatDoor
namespace Rows

/-- THE TIED CARD OF 'trestlelaw04.TreeFiles'. -/
def treeFilesCard : Claim7 := { stood := { row := treeFilesRow, standIns := [], harness := (true, "df2ff05d1133b3637e722d477892a83a365736a5b03ba73854c68877812b99e5"), looks := true }, kinds := [], alts := [], laidByText := true, laidKinds := [.data, .data, .data, .data, .sentinel, .sentinel, .pinned], laidTests := true, laidLooks := .later }
def TreeFilesCardSaid : Prop := Claim7.holds Tryz.pinned (.plain (OpenSpec.ofChange treeFilesSpec)) treeFilesCard

/-- THE TIED CARD OF 'trestlelaw17.OplogNil'. -/
def oplogNilCard : Claim7 := { stood := { row := oplogNilRow, standIns := [], harness := (true, "df2ff05d1133b3637e722d477892a83a365736a5b03ba73854c68877812b99e5"), looks := true }, kinds := [], alts := [], laidByText := true, laidKinds := [.data, .data, .data, .data, .sentinel, .sentinel, .listed, .data, .pinned], laidTests := true, laidLooks := .later }
def OplogNilCardSaid : Prop := Claim7.holds Tryz.pinned (.plain (OpenSpec.ofChange oplogNilSpec)) oplogNilCard

/-- THE TIED CARD OF 'trestlelaw17.OplogPlays'. -/
def oplogPlaysCard : Claim7 := { stood := { row := oplogPlaysRow, standIns := [], harness := (true, "df2ff05d1133b3637e722d477892a83a365736a5b03ba73854c68877812b99e5"), looks := true }, kinds := [], alts := [], laidByText := true, laidKinds := [.data, .data, .data, .data, .sentinel, .sentinel, .listed, .data, .pinned], laidTests := true, laidLooks := .later }
def OplogPlaysCardSaid : Prop := Claim7.holds Tryz.pinned (.plain (OpenSpec.ofChange oplogPlaysSpec)) oplogPlaysCard

/-- THE SECOND FORM's CARD OF 'trestlelaw04.TreeFiles'. -/
def treeFilesUptoCard : Claim7 := { stood := { row := treeFilesUptoRow, standIns := [], harness := (true, "df2ff05d1133b3637e722d477892a83a365736a5b03ba73854c68877812b99e5"), looks := true }, kinds := [], alts := [], laidByText := true, laidKinds := [.data, .data, .data, .data, .sentinel, .sentinel, .pinned], laidTests := true, laidLooks := .later }
def TreeFilesUptoCardSaid : Prop := Claim7.holds Tryz.pinned (.plain (OpenSpec.upto treeFilesSpec)) treeFilesUptoCard

/-- THE SECOND FORM's CARD OF 'trestlelaw17.OplogNil'. -/
def oplogNilUptoCard : Claim7 := { stood := { row := oplogNilUptoRow, standIns := [], harness := (true, "df2ff05d1133b3637e722d477892a83a365736a5b03ba73854c68877812b99e5"), looks := true }, kinds := [], alts := [], laidByText := true, laidKinds := [.data, .data, .data, .data, .sentinel, .sentinel, .listed, .data, .pinned], laidTests := true, laidLooks := .later }
def OplogNilUptoCardSaid : Prop := Claim7.holds Tryz.pinned (.plain (OpenSpec.upto oplogNilSpec)) oplogNilUptoCard

/-- THE SECOND FORM's CARD OF 'trestlelaw17.OplogPlays'. -/
def oplogPlaysUptoCard : Claim7 := { stood := { row := oplogPlaysUptoRow, standIns := [], harness := (true, "df2ff05d1133b3637e722d477892a83a365736a5b03ba73854c68877812b99e5"), looks := true }, kinds := [], alts := [], laidByText := true, laidKinds := [.data, .data, .data, .data, .sentinel, .sentinel, .listed, .data, .pinned], laidTests := true, laidLooks := .later }
def OplogPlaysUptoCardSaid : Prop := Claim7.holds Tryz.pinned (.plain (OpenSpec.upto oplogPlaysSpec)) oplogPlaysUptoCard
end Rows
end Go.Proofs.YtlndnpfjneeeeaaGreatDoor
