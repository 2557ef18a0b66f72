/-
  DERIVED. GIVEN WITH THE SEED: THE CARDS: each row of YtoofflnaebkigaaDoorRows.lean that lists a variable, with what it lists TIED to the program's text (the seventh form; the later family's looks); each row that meets fmt, with fmt's text TOLD by the authors' own Lean function (tested against real Go, not proved from fmt's source: count such statements apart). THE CARD IS WHAT COUNTS. Prove the row's statement (the work); the ties are given (YtoofflnaebkigaaDoorTie.lean); close each card by the builder's one call (the guide's Derived/Test/ToyasCard.lean, 'card_holds'). Laid BY PROGRAM, IN A SANDBOX (cutbox-door.mjs). By AI agents, Wed Nov 11 2026. No macro, syntax, notation, axiom, sorry.
-/
import Derived.Test.YtoofflnaebkigaaDoorRows
import GoSem.ClaimSeven
namespace Go.Proofs.YtoofflnaebkigaaDoor
namespace Rows

/-- THE TIED CARD OF 'trestlelaw07.GraphChecks'. -/
def graphChecksCard : Claim7 := { stood := { row := graphChecksRow, standIns := [], harness := (true, "54b7003bec76927264a02c58c99c98865de1c033e7b904397a0adf6555049ff3"), looks := true }, kinds := [], alts := [], laidByText := true, laidKinds := [.data, .data, .data, .data, .sentinel, .sentinel, .listed, .data, .pinned], laidTests := true, laidLooks := .later }
def GraphChecksCardSaid : Prop := Claim7.holds Tryd.pinned (.plain (OpenSpec.ofChange graphChecksSpec)) graphChecksCard

/-- THE TIED CARD OF 'trestlelaw07.GraphOrders'. -/
def graphOrdersCard : Claim7 := { stood := { row := graphOrdersRow, standIns := [], harness := (true, "54b7003bec76927264a02c58c99c98865de1c033e7b904397a0adf6555049ff3"), looks := true }, kinds := [], alts := [], laidByText := true, laidKinds := [.data, .data, .data, .data, .sentinel, .sentinel, .listed, .data, .pinned], laidTests := true, laidLooks := .later }
def GraphOrdersCardSaid : Prop := Claim7.holds Tryd.pinned (.plain (OpenSpec.ofChange graphOrdersSpec)) graphOrdersCard

/-- THE TIED CARD OF 'trestlelaw07.GraphTurned'. -/
def graphTurnedCard : Claim7 := { stood := { row := graphTurnedRow, standIns := [], harness := (true, "54b7003bec76927264a02c58c99c98865de1c033e7b904397a0adf6555049ff3"), looks := true }, kinds := [], alts := [], laidByText := true, laidKinds := [.data, .data, .data, .data, .sentinel, .sentinel, .listed, .data, .pinned], laidTests := true, laidLooks := .later }
def GraphTurnedCardSaid : Prop := Claim7.holds Tryd.pinned (.plain (OpenSpec.ofChange graphTurnedSpec)) graphTurnedCard

/-- THE TIED CARD OF 'trestlelaw07.GraphFinds'. -/
def graphFindsCard : Claim7 := { stood := { row := graphFindsRow, standIns := [], harness := (true, "54b7003bec76927264a02c58c99c98865de1c033e7b904397a0adf6555049ff3"), looks := true }, kinds := [], alts := [], laidByText := true, laidKinds := [.data, .data, .data, .data, .sentinel, .sentinel, .listed, .data, .pinned], laidTests := true, laidLooks := .later }
def GraphFindsCardSaid : Prop := Claim7.holds Tryd.pinned (.plain (OpenSpec.ofChange graphFindsSpec)) graphFindsCard

/-- THE TIED CARD OF 'trestlelaw07.GraphBehind'. -/
def graphBehindCard : Claim7 := { stood := { row := graphBehindRow, standIns := [], harness := (true, "54b7003bec76927264a02c58c99c98865de1c033e7b904397a0adf6555049ff3"), looks := true }, kinds := [], alts := [], laidByText := true, laidKinds := [.data, .data, .data, .data, .sentinel, .sentinel, .listed, .data, .pinned], laidTests := true, laidLooks := .later }
def GraphBehindCardSaid : Prop := Claim7.holds Tryd.pinned (.plain (OpenSpec.ofChange graphBehindSpec)) graphBehindCard

/-- THE TIED CARD OF 'trestlelaw07.GraphBelow'. -/
def graphBelowCard : Claim7 := { stood := { row := graphBelowRow, standIns := [], harness := (true, "54b7003bec76927264a02c58c99c98865de1c033e7b904397a0adf6555049ff3"), looks := true }, kinds := [], alts := [], laidByText := true, laidKinds := [.data, .data, .data, .data, .sentinel, .sentinel, .listed, .data, .pinned], laidTests := true, laidLooks := .later }
def GraphBelowCardSaid : Prop := Claim7.holds Tryd.pinned (.plain (OpenSpec.ofChange graphBelowSpec)) graphBelowCard

/-- THE SECOND FORM's CARD OF 'trestlelaw07.GraphChecks'. -/
def graphChecksUptoCard : Claim7 := { stood := { row := graphChecksUptoRow, standIns := [], harness := (true, "54b7003bec76927264a02c58c99c98865de1c033e7b904397a0adf6555049ff3"), looks := true }, kinds := [], alts := [], laidByText := true, laidKinds := [.data, .data, .data, .data, .sentinel, .sentinel, .listed, .data, .pinned], laidTests := true, laidLooks := .later }
def GraphChecksUptoCardSaid : Prop := Claim7.holds Tryd.pinned (.plain (OpenSpec.upto graphChecksSpec)) graphChecksUptoCard

/-- THE SECOND FORM's CARD OF 'trestlelaw07.GraphOrders'. -/
def graphOrdersUptoCard : Claim7 := { stood := { row := graphOrdersUptoRow, standIns := [], harness := (true, "54b7003bec76927264a02c58c99c98865de1c033e7b904397a0adf6555049ff3"), looks := true }, kinds := [], alts := [], laidByText := true, laidKinds := [.data, .data, .data, .data, .sentinel, .sentinel, .listed, .data, .pinned], laidTests := true, laidLooks := .later }
def GraphOrdersUptoCardSaid : Prop := Claim7.holds Tryd.pinned (.plain (OpenSpec.upto graphOrdersSpec)) graphOrdersUptoCard

/-- THE SECOND FORM's CARD OF 'trestlelaw07.GraphTurned'. -/
def graphTurnedUptoCard : Claim7 := { stood := { row := graphTurnedUptoRow, standIns := [], harness := (true, "54b7003bec76927264a02c58c99c98865de1c033e7b904397a0adf6555049ff3"), looks := true }, kinds := [], alts := [], laidByText := true, laidKinds := [.data, .data, .data, .data, .sentinel, .sentinel, .listed, .data, .pinned], laidTests := true, laidLooks := .later }
def GraphTurnedUptoCardSaid : Prop := Claim7.holds Tryd.pinned (.plain (OpenSpec.upto graphTurnedSpec)) graphTurnedUptoCard

/-- THE SECOND FORM's CARD OF 'trestlelaw07.GraphFinds'. -/
def graphFindsUptoCard : Claim7 := { stood := { row := graphFindsUptoRow, standIns := [], harness := (true, "54b7003bec76927264a02c58c99c98865de1c033e7b904397a0adf6555049ff3"), looks := true }, kinds := [], alts := [], laidByText := true, laidKinds := [.data, .data, .data, .data, .sentinel, .sentinel, .listed, .data, .pinned], laidTests := true, laidLooks := .later }
def GraphFindsUptoCardSaid : Prop := Claim7.holds Tryd.pinned (.plain (OpenSpec.upto graphFindsSpec)) graphFindsUptoCard

/-- THE SECOND FORM's CARD OF 'trestlelaw07.GraphBehind'. -/
def graphBehindUptoCard : Claim7 := { stood := { row := graphBehindUptoRow, standIns := [], harness := (true, "54b7003bec76927264a02c58c99c98865de1c033e7b904397a0adf6555049ff3"), looks := true }, kinds := [], alts := [], laidByText := true, laidKinds := [.data, .data, .data, .data, .sentinel, .sentinel, .listed, .data, .pinned], laidTests := true, laidLooks := .later }
def GraphBehindUptoCardSaid : Prop := Claim7.holds Tryd.pinned (.plain (OpenSpec.upto graphBehindSpec)) graphBehindUptoCard

/-- THE SECOND FORM's CARD OF 'trestlelaw07.GraphBelow'. -/
def graphBelowUptoCard : Claim7 := { stood := { row := graphBelowUptoRow, standIns := [], harness := (true, "54b7003bec76927264a02c58c99c98865de1c033e7b904397a0adf6555049ff3"), looks := true }, kinds := [], alts := [], laidByText := true, laidKinds := [.data, .data, .data, .data, .sentinel, .sentinel, .listed, .data, .pinned], laidTests := true, laidLooks := .later }
def GraphBelowUptoCardSaid : Prop := Claim7.holds Tryd.pinned (.plain (OpenSpec.upto graphBelowSpec)) graphBelowUptoCard
end Rows
end Go.Proofs.YtoofflnaebkigaaDoor
