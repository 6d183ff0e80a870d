/-
  DERIVED. GIVEN WITH THE SEED: THE CARDS: each row of YtbkheiilcfhfpaaDoorRows.lean that lists a variable, with what it lists TIED to the program's text (the seventh form; the later family's looks); each row that meets fmt, with fmt's text TOLD by the authors' own Lean function (tested against real Go, not proved from fmt's source: count such statements apart). THE CARD IS WHAT COUNTS. Prove the row's statement (the work); the ties are given (YtbkheiilcfhfpaaDoorTie.lean); close each card by the builder's one call (the guide's Derived/Test/ToyasCard.lean, 'card_holds'). Laid BY PROGRAM, IN A SANDBOX (cutbox-door.mjs). By AI agents, Wed Nov 11 2026. No macro, syntax, notation, axiom, sorry.
-/
import Derived.Test.YtbkheiilcfhfpaaDoorRows
import GoSem.ClaimSeven
namespace Go.Proofs.YtbkheiilcfhfpaaDoor
namespace Rows

/-- THE TIED CARD OF 'observatorylaw12.WeatherOrder'. -/
def weatherOrderCard : Claim7 := { stood := { row := weatherOrderRow, standIns := [], harness := (true, "db526eed5630d51b72527e5b9713d357aa5182123d482c2da94c75585871568f"), looks := true }, kinds := [], alts := [], laidByText := true, laidKinds := [.data, .data, .data, .sentinel, .sentinel], laidTests := true, laidLooks := .later }
def WeatherOrderCardSaid : Prop := Claim7.holds Tryd.pinned (.plain (OpenSpec.ofChange weatherOrderSpec)) weatherOrderCard

/-- THE TIED CARD OF 'observatorylaw12.WeatherMoon'. -/
def weatherMoonCard : Claim7 := { stood := { row := weatherMoonRow, standIns := [], harness := (true, "db526eed5630d51b72527e5b9713d357aa5182123d482c2da94c75585871568f"), looks := true }, kinds := [], alts := [], laidByText := true, laidKinds := [.data, .data, .data, .sentinel, .sentinel], laidTests := true, laidLooks := .later }
def WeatherMoonCardSaid : Prop := Claim7.holds Tryd.pinned (.plain (OpenSpec.ofChange weatherMoonSpec)) weatherMoonCard

/-- THE TIED CARD OF 'observatorylaw12.WeatherMatchesReference'. -/
def weatherMatchesReferenceCard : Claim7 := { stood := { row := weatherMatchesReferenceRow, standIns := [], harness := (true, "db526eed5630d51b72527e5b9713d357aa5182123d482c2da94c75585871568f"), looks := true }, kinds := [], alts := [], laidByText := true, laidKinds := [.data, .data, .data, .sentinel, .sentinel], laidTests := true, laidLooks := .later }
def WeatherMatchesReferenceCardSaid : Prop := Claim7.holds Tryd.pinned (.plain (OpenSpec.ofChange weatherMatchesReferenceSpec)) weatherMatchesReferenceCard

/-- THE TIED CARD OF 'observatorylaw12.WeatherTexts'. -/
def weatherTextsCard : Claim7 := { stood := { row := weatherTextsRow, standIns := [], harness := (true, "db526eed5630d51b72527e5b9713d357aa5182123d482c2da94c75585871568f"), looks := true }, kinds := [], alts := [], laidByText := true, laidKinds := [.data, .data, .data, .sentinel, .sentinel], laidTests := true, laidLooks := .later }
def WeatherTextsCardSaid : Prop := Claim7.holds Tryd.pinned (.plain (OpenSpec.ofChange weatherTextsSpec)) weatherTextsCard

/-- THE TIED CARD OF 'observatorylaw12.WeatherLast'. -/
def weatherLastCard : Claim7 := { stood := { row := weatherLastRow, standIns := [], harness := (true, "db526eed5630d51b72527e5b9713d357aa5182123d482c2da94c75585871568f"), looks := true }, kinds := [], alts := [], laidByText := true, laidKinds := [.data, .data, .data, .sentinel, .sentinel], laidTests := true, laidLooks := .later }
def WeatherLastCardSaid : Prop := Claim7.holds Tryd.pinned (.plain (OpenSpec.ofChange weatherLastSpec)) weatherLastCard

/-- THE SECOND FORM's CARD OF 'observatorylaw12.WeatherOrder'. -/
def weatherOrderUptoCard : Claim7 := { stood := { row := weatherOrderUptoRow, standIns := [], harness := (true, "db526eed5630d51b72527e5b9713d357aa5182123d482c2da94c75585871568f"), looks := true }, kinds := [], alts := [], laidByText := true, laidKinds := [.data, .data, .data, .sentinel, .sentinel], laidTests := true, laidLooks := .later }
def WeatherOrderUptoCardSaid : Prop := Claim7.holds Tryd.pinned (.plain (OpenSpec.upto weatherOrderSpec)) weatherOrderUptoCard

/-- THE SECOND FORM's CARD OF 'observatorylaw12.WeatherMoon'. -/
def weatherMoonUptoCard : Claim7 := { stood := { row := weatherMoonUptoRow, standIns := [], harness := (true, "db526eed5630d51b72527e5b9713d357aa5182123d482c2da94c75585871568f"), looks := true }, kinds := [], alts := [], laidByText := true, laidKinds := [.data, .data, .data, .sentinel, .sentinel], laidTests := true, laidLooks := .later }
def WeatherMoonUptoCardSaid : Prop := Claim7.holds Tryd.pinned (.plain (OpenSpec.upto weatherMoonSpec)) weatherMoonUptoCard

/-- THE SECOND FORM's CARD OF 'observatorylaw12.WeatherMatchesReference'. -/
def weatherMatchesReferenceUptoCard : Claim7 := { stood := { row := weatherMatchesReferenceUptoRow, standIns := [], harness := (true, "db526eed5630d51b72527e5b9713d357aa5182123d482c2da94c75585871568f"), looks := true }, kinds := [], alts := [], laidByText := true, laidKinds := [.data, .data, .data, .sentinel, .sentinel], laidTests := true, laidLooks := .later }
def WeatherMatchesReferenceUptoCardSaid : Prop := Claim7.holds Tryd.pinned (.plain (OpenSpec.upto weatherMatchesReferenceSpec)) weatherMatchesReferenceUptoCard

/-- THE SECOND FORM's CARD OF 'observatorylaw12.WeatherTexts'. -/
def weatherTextsUptoCard : Claim7 := { stood := { row := weatherTextsUptoRow, standIns := [], harness := (true, "db526eed5630d51b72527e5b9713d357aa5182123d482c2da94c75585871568f"), looks := true }, kinds := [], alts := [], laidByText := true, laidKinds := [.data, .data, .data, .sentinel, .sentinel], laidTests := true, laidLooks := .later }
def WeatherTextsUptoCardSaid : Prop := Claim7.holds Tryd.pinned (.plain (OpenSpec.upto weatherTextsSpec)) weatherTextsUptoCard

/-- THE SECOND FORM's CARD OF 'observatorylaw12.WeatherLast'. -/
def weatherLastUptoCard : Claim7 := { stood := { row := weatherLastUptoRow, standIns := [], harness := (true, "db526eed5630d51b72527e5b9713d357aa5182123d482c2da94c75585871568f"), looks := true }, kinds := [], alts := [], laidByText := true, laidKinds := [.data, .data, .data, .sentinel, .sentinel], laidTests := true, laidLooks := .later }
def WeatherLastUptoCardSaid : Prop := Claim7.holds Tryd.pinned (.plain (OpenSpec.upto weatherLastSpec)) weatherLastUptoCard
end Rows
end Go.Proofs.YtbkheiilcfhfpaaDoor
