/-
  DERIVED. GIVEN WITH THE SEED: THE CARDS: each row of YthnkahilaampmaaDoorRows.lean that lists a variable, with what it lists TIED to the program's text (the seventh form; the later family's looks); each row that meets fmt, with fmt's text TOLD by the authors' own Lean function (tested against real Go, not proved from fmt's source: count such statements apart). THE CARD IS WHAT COUNTS. Prove the row's statement (the work); the ties are given (YthnkahilaampmaaDoorTie.lean); close each card by the builder's one call (the guide's Derived/Test/ToyasCard.lean, 'card_holds'). Laid BY PROGRAM, IN A SANDBOX (cutbox-door.mjs). By AI agents, Wed Nov 11 2026. No macro, syntax, notation, axiom, sorry.
-/
import Derived.Test.YthnkahilaampmaaDoorRows
import GoSem.ClaimSeven
namespace Go.Proofs.YthnkahilaampmaaDoor
namespace Rows

/-- THE TIED CARD OF 'observatorylaw14.RigMatchesReference'. -/
def rigMatchesReferenceCard : Claim7 := { stood := { row := rigMatchesReferenceRow, standIns := [], harness := (true, "1cb5c2257df98ad681d431fd85a2023e677969da75b5c5397e5e9c3e4357382f"), looks := true }, kinds := [], alts := [], laidByText := true, laidKinds := [.data, .data, .data, .sentinel, .sentinel], laidTests := true, laidLooks := .later }
def RigMatchesReferenceCardSaid : Prop := Claim7.holds Tryd.pinned (.plain (OpenSpec.ofChange rigMatchesReferenceSpec)) rigMatchesReferenceCard

/-- THE TIED CARD OF 'observatorylaw14.RigTurns'. -/
def rigTurnsCard : Claim7 := { stood := { row := rigTurnsRow, standIns := [], harness := (true, "1cb5c2257df98ad681d431fd85a2023e677969da75b5c5397e5e9c3e4357382f"), looks := true }, kinds := [], alts := [], laidByText := true, laidKinds := [.data, .data, .data, .sentinel, .sentinel], laidTests := true, laidLooks := .later }
def RigTurnsCardSaid : Prop := Claim7.holds Tryd.pinned (.plain (OpenSpec.ofChange rigTurnsSpec)) rigTurnsCard

/-- THE TIED CARD OF 'observatorylaw14.RigPrepares'. -/
def rigPreparesCard : Claim7 := { stood := { row := rigPreparesRow, standIns := [], harness := (true, "1cb5c2257df98ad681d431fd85a2023e677969da75b5c5397e5e9c3e4357382f"), looks := true }, kinds := [], alts := [], laidByText := true, laidKinds := [.data, .data, .data, .sentinel, .sentinel], laidTests := true, laidLooks := .later }
def RigPreparesCardSaid : Prop := Claim7.holds Tryd.pinned (.plain (OpenSpec.ofChange rigPreparesSpec)) rigPreparesCard

/-- THE TIED CARD OF 'observatorylaw14.RigAgain'. -/
def rigAgainCard : Claim7 := { stood := { row := rigAgainRow, standIns := [], harness := (true, "1cb5c2257df98ad681d431fd85a2023e677969da75b5c5397e5e9c3e4357382f"), looks := true }, kinds := [], alts := [], laidByText := true, laidKinds := [.data, .data, .data, .sentinel, .sentinel], laidTests := true, laidLooks := .later }
def RigAgainCardSaid : Prop := Claim7.holds Tryd.pinned (.plain (OpenSpec.ofChange rigAgainSpec)) rigAgainCard

/-- THE TIED CARD OF 'observatorylaw14.RigStuck'. -/
def rigStuckCard : Claim7 := { stood := { row := rigStuckRow, standIns := [], harness := (true, "1cb5c2257df98ad681d431fd85a2023e677969da75b5c5397e5e9c3e4357382f"), looks := true }, kinds := [], alts := [], laidByText := true, laidKinds := [.data, .data, .data, .sentinel, .sentinel], laidTests := true, laidLooks := .later }
def RigStuckCardSaid : Prop := Claim7.holds Tryd.pinned (.plain (OpenSpec.ofChange rigStuckSpec)) rigStuckCard

/-- THE TIED CARD OF 'observatorylaw14.RigFaster'. -/
def rigFasterCard : Claim7 := { stood := { row := rigFasterRow, standIns := [], harness := (true, "1cb5c2257df98ad681d431fd85a2023e677969da75b5c5397e5e9c3e4357382f"), looks := true }, kinds := [], alts := [], laidByText := true, laidKinds := [.data, .data, .data, .sentinel, .sentinel], laidTests := true, laidLooks := .later }
def RigFasterCardSaid : Prop := Claim7.holds Tryd.pinned (.plain (OpenSpec.ofChange rigFasterSpec)) rigFasterCard

/-- THE SECOND FORM's CARD OF 'observatorylaw14.RigMatchesReference'. -/
def rigMatchesReferenceUptoCard : Claim7 := { stood := { row := rigMatchesReferenceUptoRow, standIns := [], harness := (true, "1cb5c2257df98ad681d431fd85a2023e677969da75b5c5397e5e9c3e4357382f"), looks := true }, kinds := [], alts := [], laidByText := true, laidKinds := [.data, .data, .data, .sentinel, .sentinel], laidTests := true, laidLooks := .later }
def RigMatchesReferenceUptoCardSaid : Prop := Claim7.holds Tryd.pinned (.plain (OpenSpec.upto rigMatchesReferenceSpec)) rigMatchesReferenceUptoCard

/-- THE SECOND FORM's CARD OF 'observatorylaw14.RigTurns'. -/
def rigTurnsUptoCard : Claim7 := { stood := { row := rigTurnsUptoRow, standIns := [], harness := (true, "1cb5c2257df98ad681d431fd85a2023e677969da75b5c5397e5e9c3e4357382f"), looks := true }, kinds := [], alts := [], laidByText := true, laidKinds := [.data, .data, .data, .sentinel, .sentinel], laidTests := true, laidLooks := .later }
def RigTurnsUptoCardSaid : Prop := Claim7.holds Tryd.pinned (.plain (OpenSpec.upto rigTurnsSpec)) rigTurnsUptoCard

/-- THE SECOND FORM's CARD OF 'observatorylaw14.RigPrepares'. -/
def rigPreparesUptoCard : Claim7 := { stood := { row := rigPreparesUptoRow, standIns := [], harness := (true, "1cb5c2257df98ad681d431fd85a2023e677969da75b5c5397e5e9c3e4357382f"), looks := true }, kinds := [], alts := [], laidByText := true, laidKinds := [.data, .data, .data, .sentinel, .sentinel], laidTests := true, laidLooks := .later }
def RigPreparesUptoCardSaid : Prop := Claim7.holds Tryd.pinned (.plain (OpenSpec.upto rigPreparesSpec)) rigPreparesUptoCard

/-- THE SECOND FORM's CARD OF 'observatorylaw14.RigAgain'. -/
def rigAgainUptoCard : Claim7 := { stood := { row := rigAgainUptoRow, standIns := [], harness := (true, "1cb5c2257df98ad681d431fd85a2023e677969da75b5c5397e5e9c3e4357382f"), looks := true }, kinds := [], alts := [], laidByText := true, laidKinds := [.data, .data, .data, .sentinel, .sentinel], laidTests := true, laidLooks := .later }
def RigAgainUptoCardSaid : Prop := Claim7.holds Tryd.pinned (.plain (OpenSpec.upto rigAgainSpec)) rigAgainUptoCard

/-- THE SECOND FORM's CARD OF 'observatorylaw14.RigStuck'. -/
def rigStuckUptoCard : Claim7 := { stood := { row := rigStuckUptoRow, standIns := [], harness := (true, "1cb5c2257df98ad681d431fd85a2023e677969da75b5c5397e5e9c3e4357382f"), looks := true }, kinds := [], alts := [], laidByText := true, laidKinds := [.data, .data, .data, .sentinel, .sentinel], laidTests := true, laidLooks := .later }
def RigStuckUptoCardSaid : Prop := Claim7.holds Tryd.pinned (.plain (OpenSpec.upto rigStuckSpec)) rigStuckUptoCard

/-- THE SECOND FORM's CARD OF 'observatorylaw14.RigFaster'. -/
def rigFasterUptoCard : Claim7 := { stood := { row := rigFasterUptoRow, standIns := [], harness := (true, "1cb5c2257df98ad681d431fd85a2023e677969da75b5c5397e5e9c3e4357382f"), looks := true }, kinds := [], alts := [], laidByText := true, laidKinds := [.data, .data, .data, .sentinel, .sentinel], laidTests := true, laidLooks := .later }
def RigFasterUptoCardSaid : Prop := Claim7.holds Tryd.pinned (.plain (OpenSpec.upto rigFasterSpec)) rigFasterUptoCard
end Rows
end Go.Proofs.YthnkahilaampmaaDoor
