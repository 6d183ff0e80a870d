/-
  DERIVED. GIVEN WITH THE SEED: THE CARDS: each row of YtmfoincmjpogmaaDoorRows.lean that lists a variable, with what it lists TIED to the program's text (the seventh form; the later family's looks); each row that meets fmt, with fmt's text TOLD by the authors' own Lean function (tested against real Go, not proved from fmt's source: count such statements apart). THE CARD IS WHAT COUNTS. Prove the row's statement (the work); the ties are given (YtmfoincmjpogmaaDoorTie.lean); close each card by the builder's one call (the guide's Derived/Test/ToyasCard.lean, 'card_holds'). Laid BY PROGRAM, IN A SANDBOX (cutbox-door.mjs). By AI agents, Wed Nov 11 2026. No macro, syntax, notation, axiom, sorry.
-/
import Derived.Test.YtmfoincmjpogmaaDoorRows
import GoSem.ClaimSeven
namespace Go.Proofs.YtmfoincmjpogmaaDoor
namespace Rows

/-- THE TIED CARD OF 'observatorylaw32.UnitMatchesReference'. -/
def unitMatchesReferenceCard : Claim7 := { stood := { row := unitMatchesReferenceRow, standIns := [], harness := (true, "ff4b1e7b0aeaaf93336e3c383615e746a3c56267071c2002e6ab6e49e9982fdc"), looks := true }, kinds := [], alts := [], laidByText := true, laidKinds := [.data, .data, .data, .sentinel, .sentinel, .listed, .data, .data], laidTests := true, laidLooks := .later }
def UnitMatchesReferenceCardSaid : Prop := Claim7.holds Tryd.pinned (.plain (OpenSpec.ofChange unitMatchesReferenceSpec)) unitMatchesReferenceCard

/-- THE TIED CARD OF 'observatorylaw32.UnitGroup'. -/
def unitGroupCard : Claim7 := { stood := { row := unitGroupRow, standIns := [], harness := (true, "ff4b1e7b0aeaaf93336e3c383615e746a3c56267071c2002e6ab6e49e9982fdc"), looks := true }, kinds := [], alts := [], laidByText := true, laidKinds := [.data, .data, .data, .sentinel, .sentinel, .listed, .data, .data], laidTests := true, laidLooks := .later }
def UnitGroupCardSaid : Prop := Claim7.holds Tryd.pinned (.plain (OpenSpec.ofChange unitGroupSpec)) unitGroupCard

/-- THE TIED CARD OF 'observatorylaw32.UnitPowers'. -/
def unitPowersCard : Claim7 := { stood := { row := unitPowersRow, standIns := [], harness := (true, "ff4b1e7b0aeaaf93336e3c383615e746a3c56267071c2002e6ab6e49e9982fdc"), looks := true }, kinds := [], alts := [], laidByText := true, laidKinds := [.data, .data, .data, .sentinel, .sentinel, .listed, .data, .data], laidTests := true, laidLooks := .later }
def UnitPowersCardSaid : Prop := Claim7.holds Tryd.pinned (.plain (OpenSpec.ofChange unitPowersSpec)) unitPowersCard

/-- THE TIED CARD OF 'observatorylaw32.UnitTexts'. -/
def unitTextsCard : Claim7 := { stood := { row := unitTextsRow, standIns := [], harness := (true, "ff4b1e7b0aeaaf93336e3c383615e746a3c56267071c2002e6ab6e49e9982fdc"), looks := true }, kinds := [], alts := [], laidByText := true, laidKinds := [.data, .data, .data, .sentinel, .sentinel, .listed, .data, .data], laidTests := true, laidLooks := .later }
def UnitTextsCardSaid : Prop := Claim7.holds Tryd.pinned (.plain (OpenSpec.ofChange unitTextsSpec)) unitTextsCard

/-- THE TIED CARD OF 'observatorylaw32.UnitErrors'. -/
def unitErrorsCard : Claim7 := { stood := { row := unitErrorsRow, standIns := [], harness := (true, "ff4b1e7b0aeaaf93336e3c383615e746a3c56267071c2002e6ab6e49e9982fdc"), looks := true }, kinds := [], alts := [], laidByText := true, laidKinds := [.data, .data, .data, .sentinel, .sentinel, .listed, .data, .data], laidTests := true, laidLooks := .later }
def UnitErrorsCardSaid : Prop := Claim7.holds Tryd.pinned (.plain (OpenSpec.ofChange unitErrorsSpec)) unitErrorsCard

/-- THE SECOND FORM's CARD OF 'observatorylaw32.UnitMatchesReference'. -/
def unitMatchesReferenceUptoCard : Claim7 := { stood := { row := unitMatchesReferenceUptoRow, standIns := [], harness := (true, "ff4b1e7b0aeaaf93336e3c383615e746a3c56267071c2002e6ab6e49e9982fdc"), looks := true }, kinds := [], alts := [], laidByText := true, laidKinds := [.data, .data, .data, .sentinel, .sentinel, .listed, .data, .data], laidTests := true, laidLooks := .later }
def UnitMatchesReferenceUptoCardSaid : Prop := Claim7.holds Tryd.pinned (.plain (OpenSpec.upto unitMatchesReferenceSpec)) unitMatchesReferenceUptoCard

/-- THE SECOND FORM's CARD OF 'observatorylaw32.UnitGroup'. -/
def unitGroupUptoCard : Claim7 := { stood := { row := unitGroupUptoRow, standIns := [], harness := (true, "ff4b1e7b0aeaaf93336e3c383615e746a3c56267071c2002e6ab6e49e9982fdc"), looks := true }, kinds := [], alts := [], laidByText := true, laidKinds := [.data, .data, .data, .sentinel, .sentinel, .listed, .data, .data], laidTests := true, laidLooks := .later }
def UnitGroupUptoCardSaid : Prop := Claim7.holds Tryd.pinned (.plain (OpenSpec.upto unitGroupSpec)) unitGroupUptoCard

/-- THE SECOND FORM's CARD OF 'observatorylaw32.UnitPowers'. -/
def unitPowersUptoCard : Claim7 := { stood := { row := unitPowersUptoRow, standIns := [], harness := (true, "ff4b1e7b0aeaaf93336e3c383615e746a3c56267071c2002e6ab6e49e9982fdc"), looks := true }, kinds := [], alts := [], laidByText := true, laidKinds := [.data, .data, .data, .sentinel, .sentinel, .listed, .data, .data], laidTests := true, laidLooks := .later }
def UnitPowersUptoCardSaid : Prop := Claim7.holds Tryd.pinned (.plain (OpenSpec.upto unitPowersSpec)) unitPowersUptoCard

/-- THE SECOND FORM's CARD OF 'observatorylaw32.UnitTexts'. -/
def unitTextsUptoCard : Claim7 := { stood := { row := unitTextsUptoRow, standIns := [], harness := (true, "ff4b1e7b0aeaaf93336e3c383615e746a3c56267071c2002e6ab6e49e9982fdc"), looks := true }, kinds := [], alts := [], laidByText := true, laidKinds := [.data, .data, .data, .sentinel, .sentinel, .listed, .data, .data], laidTests := true, laidLooks := .later }
def UnitTextsUptoCardSaid : Prop := Claim7.holds Tryd.pinned (.plain (OpenSpec.upto unitTextsSpec)) unitTextsUptoCard

/-- THE SECOND FORM's CARD OF 'observatorylaw32.UnitErrors'. -/
def unitErrorsUptoCard : Claim7 := { stood := { row := unitErrorsUptoRow, standIns := [], harness := (true, "ff4b1e7b0aeaaf93336e3c383615e746a3c56267071c2002e6ab6e49e9982fdc"), looks := true }, kinds := [], alts := [], laidByText := true, laidKinds := [.data, .data, .data, .sentinel, .sentinel, .listed, .data, .data], laidTests := true, laidLooks := .later }
def UnitErrorsUptoCardSaid : Prop := Claim7.holds Tryd.pinned (.plain (OpenSpec.upto unitErrorsSpec)) unitErrorsUptoCard
end Rows
end Go.Proofs.YtmfoincmjpogmaaDoor
