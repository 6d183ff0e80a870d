/-
  DERIVED. GIVEN WITH THE SEED: THE CARDS: each row of YtogcnmjipfllaaaDoorRows.lean that lists a variable, with what it lists TIED to the program's text (the seventh form; the later family's looks); each row that meets fmt, with fmt's text TOLD by the authors' own Lean function (tested against real Go, not proved from fmt's source: count such statements apart). THE CARD IS WHAT COUNTS. Prove the row's statement (the work); the ties are given (YtogcnmjipfllaaaDoorTie.lean); close each card by the builder's one call (the guide's Derived/Test/ToyasCard.lean, 'card_holds'). Laid BY PROGRAM, IN A SANDBOX (cutbox-door.mjs). By AI agents, Wed Nov 11 2026. No macro, syntax, notation, axiom, sorry.
-/
import Derived.Test.YtogcnmjipfllaaaDoorRows
import GoSem.ClaimSeven
namespace Go.Proofs.YtogcnmjipfllaaaDoor
namespace Rows

/-- THE TIED CARD OF 'observatorylaw33.FlowUnits'. -/
def flowUnitsCard : Claim7 := { stood := { row := flowUnitsRow, standIns := [], harness := (true, "b8a874c42ed2f05978dc5c68ee6d16351164bff48b7c39d4d092044340a3eff9"), looks := true }, kinds := [], alts := [], laidByText := true, laidKinds := [.data, .data, .data, .sentinel, .sentinel], laidTests := true, laidLooks := .later }
def FlowUnitsCardSaid : Prop := Claim7.holds Tryd.pinned (.plain (OpenSpec.ofChange flowUnitsSpec)) flowUnitsCard

/-- THE TIED CARD OF 'observatorylaw33.FlowPure'. -/
def flowPureCard : Claim7 := { stood := { row := flowPureRow, standIns := [], harness := (true, "b8a874c42ed2f05978dc5c68ee6d16351164bff48b7c39d4d092044340a3eff9"), looks := true }, kinds := [], alts := [], laidByText := true, laidKinds := [.data, .data, .data, .sentinel, .sentinel], laidTests := true, laidLooks := .later }
def FlowPureCardSaid : Prop := Claim7.holds Tryd.pinned (.plain (OpenSpec.ofChange flowPureSpec)) flowPureCard

/-- THE TIED CARD OF 'observatorylaw33.FlowTexts'. -/
def flowTextsCard : Claim7 := { stood := { row := flowTextsRow, standIns := [], harness := (true, "b8a874c42ed2f05978dc5c68ee6d16351164bff48b7c39d4d092044340a3eff9"), looks := true }, kinds := [], alts := [], laidByText := true, laidKinds := [.data, .data, .data, .sentinel, .sentinel], laidTests := true, laidLooks := .later }
def FlowTextsCardSaid : Prop := Claim7.holds Tryd.pinned (.plain (OpenSpec.ofChange flowTextsSpec)) flowTextsCard

/-- THE SECOND FORM's CARD OF 'observatorylaw33.FlowUnits'. -/
def flowUnitsUptoCard : Claim7 := { stood := { row := flowUnitsUptoRow, standIns := [], harness := (true, "b8a874c42ed2f05978dc5c68ee6d16351164bff48b7c39d4d092044340a3eff9"), looks := true }, kinds := [], alts := [], laidByText := true, laidKinds := [.data, .data, .data, .sentinel, .sentinel], laidTests := true, laidLooks := .later }
def FlowUnitsUptoCardSaid : Prop := Claim7.holds Tryd.pinned (.plain (OpenSpec.upto flowUnitsSpec)) flowUnitsUptoCard

/-- THE SECOND FORM's CARD OF 'observatorylaw33.FlowPure'. -/
def flowPureUptoCard : Claim7 := { stood := { row := flowPureUptoRow, standIns := [], harness := (true, "b8a874c42ed2f05978dc5c68ee6d16351164bff48b7c39d4d092044340a3eff9"), looks := true }, kinds := [], alts := [], laidByText := true, laidKinds := [.data, .data, .data, .sentinel, .sentinel], laidTests := true, laidLooks := .later }
def FlowPureUptoCardSaid : Prop := Claim7.holds Tryd.pinned (.plain (OpenSpec.upto flowPureSpec)) flowPureUptoCard

/-- THE SECOND FORM's CARD OF 'observatorylaw33.FlowTexts'. -/
def flowTextsUptoCard : Claim7 := { stood := { row := flowTextsUptoRow, standIns := [], harness := (true, "b8a874c42ed2f05978dc5c68ee6d16351164bff48b7c39d4d092044340a3eff9"), looks := true }, kinds := [], alts := [], laidByText := true, laidKinds := [.data, .data, .data, .sentinel, .sentinel], laidTests := true, laidLooks := .later }
def FlowTextsUptoCardSaid : Prop := Claim7.holds Tryd.pinned (.plain (OpenSpec.upto flowTextsSpec)) flowTextsUptoCard
end Rows
end Go.Proofs.YtogcnmjipfllaaaDoor
