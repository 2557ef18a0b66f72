/-
  DERIVED. GIVEN WITH THE SEED: THE CARDS: each row of YtmlaolmaopjhbaaGreatDoorRows.lean that lists a variable, with what it lists TIED to the program's text (the seventh form; the later family's looks); each row that meets fmt, with fmt's text TOLD by the authors' own Lean function (tested against real Go, not proved from fmt's source: count such statements apart). THE CARD IS WHAT COUNTS. Prove the row's statement (the work); the ties are given (YtmlaolmaopjhbaaGreatDoorTie.lean); close each card by the builder's one call (the guide's Derived/Test/ToyasCard.lean, 'card_holds'). Laid BY PROGRAM, IN A SANDBOX (cutbox-door.mjs). By AI agents, Wed Nov 11 2026. No macro, syntax, notation, axiom, sorry.
-/
import Derived.Test.YtmlaolmaopjhbaaGreatDoorRows
import GoSem.ClaimSeven
namespace Go.Proofs.YtmlaolmaopjhbaaGreatDoor
namespace Rows

/-- THE TIED CARD OF 'trestlelaw17.OplogNil'. -/
def oplogNilCard : Claim7 := { stood := { row := oplogNilRow, standIns := [], harness := (true, "86d1f063d0049fbb430240933f0b65b041fdbf384d885fd28815bc4d2657defa"), looks := true }, kinds := [], alts := [], laidByText := true, laidKinds := [.data, .data, .data, .data, .sentinel, .sentinel, .listed, .data, .pinned], laidTests := true, laidLooks := .later }
def OplogNilCardSaid : Prop := Claim7.holds Tryz.pinned (.plain (OpenSpec.ofChange oplogNilSpec)) oplogNilCard

/-- THE TIED CARD OF 'trestlelaw17.OplogPlays'. -/
def oplogPlaysCard : Claim7 := { stood := { row := oplogPlaysRow, standIns := [], harness := (true, "86d1f063d0049fbb430240933f0b65b041fdbf384d885fd28815bc4d2657defa"), looks := true }, kinds := [], alts := [], laidByText := true, laidKinds := [.data, .data, .data, .data, .sentinel, .sentinel, .listed, .data, .pinned], laidTests := true, laidLooks := .later }
def OplogPlaysCardSaid : Prop := Claim7.holds Tryz.pinned (.plain (OpenSpec.ofChange oplogPlaysSpec)) oplogPlaysCard

/-- THE SECOND FORM's CARD OF 'trestlelaw17.OplogNil'. -/
def oplogNilUptoCard : Claim7 := { stood := { row := oplogNilUptoRow, standIns := [], harness := (true, "86d1f063d0049fbb430240933f0b65b041fdbf384d885fd28815bc4d2657defa"), looks := true }, kinds := [], alts := [], laidByText := true, laidKinds := [.data, .data, .data, .data, .sentinel, .sentinel, .listed, .data, .pinned], laidTests := true, laidLooks := .later }
def OplogNilUptoCardSaid : Prop := Claim7.holds Tryz.pinned (.plain (OpenSpec.upto oplogNilSpec)) oplogNilUptoCard

/-- THE SECOND FORM's CARD OF 'trestlelaw17.OplogPlays'. -/
def oplogPlaysUptoCard : Claim7 := { stood := { row := oplogPlaysUptoRow, standIns := [], harness := (true, "86d1f063d0049fbb430240933f0b65b041fdbf384d885fd28815bc4d2657defa"), looks := true }, kinds := [], alts := [], laidByText := true, laidKinds := [.data, .data, .data, .data, .sentinel, .sentinel, .listed, .data, .pinned], laidTests := true, laidLooks := .later }
def OplogPlaysUptoCardSaid : Prop := Claim7.holds Tryz.pinned (.plain (OpenSpec.upto oplogPlaysSpec)) oplogPlaysUptoCard
end Rows
end Go.Proofs.YtmlaolmaopjhbaaGreatDoor
