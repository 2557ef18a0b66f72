/-
  DERIVED. GIVEN WITH THE SEED: THE CARDS: each row of YtimfljncibbdoaaGreatDoorRows.lean that lists a variable, with what it lists TIED to the program's text (the seventh form; the later family's looks); each row that meets fmt, with fmt's text TOLD by the authors' own Lean function (tested against real Go, not proved from fmt's source: count such statements apart). THE CARD IS WHAT COUNTS. Prove the row's statement (the work); the ties are given (YtimfljncibbdoaaGreatDoorTie.lean); close each card by the builder's one call (the guide's Derived/Test/ToyasCard.lean, 'card_holds'). Laid BY PROGRAM, IN A SANDBOX (cutbox-door.mjs). By AI agents, Wed Nov 11 2026. No macro, syntax, notation, axiom, sorry.
-/
import Derived.Test.YtimfljncibbdoaaGreatDoorRows
import GoSem.ClaimSeven
namespace Go.Proofs.YtimfljncibbdoaaGreatDoor
namespace Rows

/-- THE TIED CARD OF 'trestlelaw05.LangRight'. -/
def langRightCard : Claim7 := { stood := { row := langRightRow, standIns := [], harness := (true, "6543f771a3e85d915196a68d300751caec292335a0da28a9f5f42113b89151f1"), looks := true }, kinds := [], alts := [], laidByText := true, laidKinds := [.data, .data, .data, .data, .sentinel, .sentinel, .listed, .data, .pinned], laidTests := true, laidLooks := .later }
def LangRightCardSaid : Prop := Claim7.holds Tryz.pinned (.plain (OpenSpec.ofChange langRightSpec)) langRightCard

/-- THE SECOND FORM's CARD OF 'trestlelaw05.LangRight'. -/
def langRightUptoCard : Claim7 := { stood := { row := langRightUptoRow, standIns := [], harness := (true, "6543f771a3e85d915196a68d300751caec292335a0da28a9f5f42113b89151f1"), looks := true }, kinds := [], alts := [], laidByText := true, laidKinds := [.data, .data, .data, .data, .sentinel, .sentinel, .listed, .data, .pinned], laidTests := true, laidLooks := .later }
def LangRightUptoCardSaid : Prop := Claim7.holds Tryz.pinned (.plain (OpenSpec.upto langRightSpec)) langRightUptoCard
end Rows
end Go.Proofs.YtimfljncibbdoaaGreatDoor
