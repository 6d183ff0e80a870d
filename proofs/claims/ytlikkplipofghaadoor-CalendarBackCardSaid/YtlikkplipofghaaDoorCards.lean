/-
  DERIVED. GIVEN WITH THE SEED: THE CARDS: each row of YtlikkplipofghaaDoorRows.lean that lists a variable, with what it lists TIED to the program's text (the seventh form; the later family's looks); each row that meets fmt, with fmt's text TOLD by the authors' own Lean function (tested against real Go, not proved from fmt's source: count such statements apart). THE CARD IS WHAT COUNTS. Prove the row's statement (the work); the ties are given (YtlikkplipofghaaDoorTie.lean); close each card by the builder's one call (the guide's Derived/Test/ToyasCard.lean, 'card_holds'). Laid BY PROGRAM, IN A SANDBOX (cutbox-door.mjs). By AI agents, Wed Nov 11 2026. No macro, syntax, notation, axiom, sorry.
-/
import Derived.Test.YtlikkplipofghaaDoorRows
import GoSem.ClaimSeven
namespace Go.Proofs.YtlikkplipofghaaDoor
namespace Rows

/-- THE TIED CARD OF 'observatorylaw09.CalendarMatchesReference'. -/
def calendarMatchesReferenceCard : Claim7 := { stood := { row := calendarMatchesReferenceRow, standIns := [], harness := (true, "5960c4a12b8f242691ffec60e6e3d22d189393c92d76808baa5ad258a6e8f525"), looks := true }, kinds := [], alts := [], laidByText := true, laidKinds := [.data, .data, .data, .sentinel, .sentinel], laidTests := true, laidLooks := .later }
def CalendarMatchesReferenceCardSaid : Prop := Claim7.holds Tryd.pinned (.plain (OpenSpec.ofChange calendarMatchesReferenceSpec)) calendarMatchesReferenceCard

/-- THE TIED CARD OF 'observatorylaw09.CalendarBack'. -/
def calendarBackCard : Claim7 := { stood := { row := calendarBackRow, standIns := [], harness := (true, "5960c4a12b8f242691ffec60e6e3d22d189393c92d76808baa5ad258a6e8f525"), looks := true }, kinds := [], alts := [], laidByText := true, laidKinds := [.data, .data, .data, .sentinel, .sentinel], laidTests := true, laidLooks := .later }
def CalendarBackCardSaid : Prop := Claim7.holds Tryd.pinned (.plain (OpenSpec.ofChange calendarBackSpec)) calendarBackCard

/-- THE TIED CARD OF 'observatorylaw09.CalendarTurns'. -/
def calendarTurnsCard : Claim7 := { stood := { row := calendarTurnsRow, standIns := [], harness := (true, "5960c4a12b8f242691ffec60e6e3d22d189393c92d76808baa5ad258a6e8f525"), looks := true }, kinds := [], alts := [], laidByText := true, laidKinds := [.data, .data, .data, .sentinel, .sentinel], laidTests := true, laidLooks := .later }
def CalendarTurnsCardSaid : Prop := Claim7.holds Tryd.pinned (.plain (OpenSpec.ofChange calendarTurnsSpec)) calendarTurnsCard

/-- THE TIED CARD OF 'observatorylaw09.CalendarOnce'. -/
def calendarOnceCard : Claim7 := { stood := { row := calendarOnceRow, standIns := [], harness := (true, "5960c4a12b8f242691ffec60e6e3d22d189393c92d76808baa5ad258a6e8f525"), looks := true }, kinds := [], alts := [], laidByText := true, laidKinds := [.data, .data, .data, .sentinel, .sentinel], laidTests := true, laidLooks := .later }
def CalendarOnceCardSaid : Prop := Claim7.holds Tryd.pinned (.plain (OpenSpec.ofChange calendarOnceSpec)) calendarOnceCard

/-- THE SECOND FORM's CARD OF 'observatorylaw09.CalendarMatchesReference'. -/
def calendarMatchesReferenceUptoCard : Claim7 := { stood := { row := calendarMatchesReferenceUptoRow, standIns := [], harness := (true, "5960c4a12b8f242691ffec60e6e3d22d189393c92d76808baa5ad258a6e8f525"), looks := true }, kinds := [], alts := [], laidByText := true, laidKinds := [.data, .data, .data, .sentinel, .sentinel], laidTests := true, laidLooks := .later }
def CalendarMatchesReferenceUptoCardSaid : Prop := Claim7.holds Tryd.pinned (.plain (OpenSpec.upto calendarMatchesReferenceSpec)) calendarMatchesReferenceUptoCard

/-- THE SECOND FORM's CARD OF 'observatorylaw09.CalendarBack'. -/
def calendarBackUptoCard : Claim7 := { stood := { row := calendarBackUptoRow, standIns := [], harness := (true, "5960c4a12b8f242691ffec60e6e3d22d189393c92d76808baa5ad258a6e8f525"), looks := true }, kinds := [], alts := [], laidByText := true, laidKinds := [.data, .data, .data, .sentinel, .sentinel], laidTests := true, laidLooks := .later }
def CalendarBackUptoCardSaid : Prop := Claim7.holds Tryd.pinned (.plain (OpenSpec.upto calendarBackSpec)) calendarBackUptoCard

/-- THE SECOND FORM's CARD OF 'observatorylaw09.CalendarTurns'. -/
def calendarTurnsUptoCard : Claim7 := { stood := { row := calendarTurnsUptoRow, standIns := [], harness := (true, "5960c4a12b8f242691ffec60e6e3d22d189393c92d76808baa5ad258a6e8f525"), looks := true }, kinds := [], alts := [], laidByText := true, laidKinds := [.data, .data, .data, .sentinel, .sentinel], laidTests := true, laidLooks := .later }
def CalendarTurnsUptoCardSaid : Prop := Claim7.holds Tryd.pinned (.plain (OpenSpec.upto calendarTurnsSpec)) calendarTurnsUptoCard

/-- THE SECOND FORM's CARD OF 'observatorylaw09.CalendarOnce'. -/
def calendarOnceUptoCard : Claim7 := { stood := { row := calendarOnceUptoRow, standIns := [], harness := (true, "5960c4a12b8f242691ffec60e6e3d22d189393c92d76808baa5ad258a6e8f525"), looks := true }, kinds := [], alts := [], laidByText := true, laidKinds := [.data, .data, .data, .sentinel, .sentinel], laidTests := true, laidLooks := .later }
def CalendarOnceUptoCardSaid : Prop := Claim7.holds Tryd.pinned (.plain (OpenSpec.upto calendarOnceSpec)) calendarOnceUptoCard
end Rows
end Go.Proofs.YtlikkplipofghaaDoor
