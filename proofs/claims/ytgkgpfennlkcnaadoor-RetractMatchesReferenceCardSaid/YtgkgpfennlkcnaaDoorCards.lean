/-
  DERIVED. GIVEN WITH THE SEED: THE CARDS: each row of YtgkgpfennlkcnaaDoorRows.lean that lists a variable, with what it lists TIED to the program's text (the seventh form; the later family's looks); each row that meets fmt, with fmt's text TOLD by the authors' own Lean function (tested against real Go, not proved from fmt's source: count such statements apart). THE CARD IS WHAT COUNTS. Prove the row's statement (the work); the ties are given (YtgkgpfennlkcnaaDoorTie.lean); close each card by the builder's one call (the guide's Derived/Test/ToyasCard.lean, 'card_holds'). Laid BY PROGRAM, IN A SANDBOX (cutbox-door.mjs). By AI agents, Wed Nov 11 2026. No macro, syntax, notation, axiom, sorry.
-/
import Derived.Test.YtgkgpfennlkcnaaDoorRows
import GoSem.ClaimSeven
namespace Go.Proofs.YtgkgpfennlkcnaaDoor
namespace Rows

/-- THE TIED CARD OF 'observatorylaw39.RetractSupports'. -/
def retractSupportsCard : Claim7 := { stood := { row := retractSupportsRow, standIns := [], harness := (true, "e49428c9e4cb3fea7652c5b4a8d3fa2d40ede04063dafab451f6776d66dc0ea1"), looks := true }, kinds := [], alts := [], laidByText := true, laidKinds := [.data, .data, .data, .sentinel, .sentinel], laidTests := true, laidLooks := .later }
def RetractSupportsCardSaid : Prop := Claim7.holds Tryd.pinned (.plain (OpenSpec.ofChange retractSupportsSpec)) retractSupportsCard

/-- THE TIED CARD OF 'observatorylaw39.RetractMore'. -/
def retractMoreCard : Claim7 := { stood := { row := retractMoreRow, standIns := [], harness := (true, "e49428c9e4cb3fea7652c5b4a8d3fa2d40ede04063dafab451f6776d66dc0ea1"), looks := true }, kinds := [], alts := [], laidByText := true, laidKinds := [.data, .data, .data, .sentinel, .sentinel], laidTests := true, laidLooks := .later }
def RetractMoreCardSaid : Prop := Claim7.holds Tryd.pinned (.plain (OpenSpec.ofChange retractMoreSpec)) retractMoreCard

/-- THE TIED CARD OF 'observatorylaw39.RetractAnyOrder'. -/
def retractAnyOrderCard : Claim7 := { stood := { row := retractAnyOrderRow, standIns := [], harness := (true, "e49428c9e4cb3fea7652c5b4a8d3fa2d40ede04063dafab451f6776d66dc0ea1"), looks := true }, kinds := [], alts := [], laidByText := true, laidKinds := [.data, .data, .data, .sentinel, .sentinel], laidTests := true, laidLooks := .later }
def RetractAnyOrderCardSaid : Prop := Claim7.holds Tryd.pinned (.plain (OpenSpec.ofChange retractAnyOrderSpec)) retractAnyOrderCard

/-- THE TIED CARD OF 'observatorylaw39.RetractMatchesReference'. -/
def retractMatchesReferenceCard : Claim7 := { stood := { row := retractMatchesReferenceRow, standIns := [], harness := (true, "e49428c9e4cb3fea7652c5b4a8d3fa2d40ede04063dafab451f6776d66dc0ea1"), looks := true }, kinds := [], alts := [], laidByText := true, laidKinds := [.data, .data, .data, .sentinel, .sentinel], laidTests := true, laidLooks := .later }
def RetractMatchesReferenceCardSaid : Prop := Claim7.holds Tryd.pinned (.plain (OpenSpec.ofChange retractMatchesReferenceSpec)) retractMatchesReferenceCard

/-- THE TIED CARD OF 'observatorylaw39.RetractFurther'. -/
def retractFurtherCard : Claim7 := { stood := { row := retractFurtherRow, standIns := [], harness := (true, "e49428c9e4cb3fea7652c5b4a8d3fa2d40ede04063dafab451f6776d66dc0ea1"), looks := true }, kinds := [], alts := [], laidByText := true, laidKinds := [.data, .data, .data, .sentinel, .sentinel], laidTests := true, laidLooks := .later }
def RetractFurtherCardSaid : Prop := Claim7.holds Tryd.pinned (.plain (OpenSpec.ofChange retractFurtherSpec)) retractFurtherCard

/-- THE SECOND FORM's CARD OF 'observatorylaw39.RetractSupports'. -/
def retractSupportsUptoCard : Claim7 := { stood := { row := retractSupportsUptoRow, standIns := [], harness := (true, "e49428c9e4cb3fea7652c5b4a8d3fa2d40ede04063dafab451f6776d66dc0ea1"), looks := true }, kinds := [], alts := [], laidByText := true, laidKinds := [.data, .data, .data, .sentinel, .sentinel], laidTests := true, laidLooks := .later }
def RetractSupportsUptoCardSaid : Prop := Claim7.holds Tryd.pinned (.plain (OpenSpec.upto retractSupportsSpec)) retractSupportsUptoCard

/-- THE SECOND FORM's CARD OF 'observatorylaw39.RetractMore'. -/
def retractMoreUptoCard : Claim7 := { stood := { row := retractMoreUptoRow, standIns := [], harness := (true, "e49428c9e4cb3fea7652c5b4a8d3fa2d40ede04063dafab451f6776d66dc0ea1"), looks := true }, kinds := [], alts := [], laidByText := true, laidKinds := [.data, .data, .data, .sentinel, .sentinel], laidTests := true, laidLooks := .later }
def RetractMoreUptoCardSaid : Prop := Claim7.holds Tryd.pinned (.plain (OpenSpec.upto retractMoreSpec)) retractMoreUptoCard

/-- THE SECOND FORM's CARD OF 'observatorylaw39.RetractAnyOrder'. -/
def retractAnyOrderUptoCard : Claim7 := { stood := { row := retractAnyOrderUptoRow, standIns := [], harness := (true, "e49428c9e4cb3fea7652c5b4a8d3fa2d40ede04063dafab451f6776d66dc0ea1"), looks := true }, kinds := [], alts := [], laidByText := true, laidKinds := [.data, .data, .data, .sentinel, .sentinel], laidTests := true, laidLooks := .later }
def RetractAnyOrderUptoCardSaid : Prop := Claim7.holds Tryd.pinned (.plain (OpenSpec.upto retractAnyOrderSpec)) retractAnyOrderUptoCard

/-- THE SECOND FORM's CARD OF 'observatorylaw39.RetractMatchesReference'. -/
def retractMatchesReferenceUptoCard : Claim7 := { stood := { row := retractMatchesReferenceUptoRow, standIns := [], harness := (true, "e49428c9e4cb3fea7652c5b4a8d3fa2d40ede04063dafab451f6776d66dc0ea1"), looks := true }, kinds := [], alts := [], laidByText := true, laidKinds := [.data, .data, .data, .sentinel, .sentinel], laidTests := true, laidLooks := .later }
def RetractMatchesReferenceUptoCardSaid : Prop := Claim7.holds Tryd.pinned (.plain (OpenSpec.upto retractMatchesReferenceSpec)) retractMatchesReferenceUptoCard

/-- THE SECOND FORM's CARD OF 'observatorylaw39.RetractFurther'. -/
def retractFurtherUptoCard : Claim7 := { stood := { row := retractFurtherUptoRow, standIns := [], harness := (true, "e49428c9e4cb3fea7652c5b4a8d3fa2d40ede04063dafab451f6776d66dc0ea1"), looks := true }, kinds := [], alts := [], laidByText := true, laidKinds := [.data, .data, .data, .sentinel, .sentinel], laidTests := true, laidLooks := .later }
def RetractFurtherUptoCardSaid : Prop := Claim7.holds Tryd.pinned (.plain (OpenSpec.upto retractFurtherSpec)) retractFurtherUptoCard
end Rows
end Go.Proofs.YtgkgpfennlkcnaaDoor
