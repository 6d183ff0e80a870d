/-
  No cell of these rows narrows 'for every input' (looked for: loops, veiled, ifaces, maps, wideKeys, modest, calm, conditions, laid).
  DERIVED. THE GIVEN ROWS OF THIS SEAT. 7 by the template 'for every input the law returns true; each argument reads behind the call as it read before'; 0 by the template 'total and deterministic' (their statements: YtgelhndjdngdnaaTotals.lean).
  GIVEN WITH THE SEED: the statements are not yours to turn. If you find one false, say at which input.
  Laid BY PROGRAM, IN A SANDBOX (cutbox-rows.mjs): the forced cells as the released guide's own fill.sh prints them over the translation ac6adfd81d966237… (all of the seat's roots in one cut). By AI agents, Wed Nov 11 2026. No macro, syntax, notation, axiom, sorry.
-/
import Derived.Test.YtgelhndjdngdnaaChecked
import GoSem.Claim
import GoSem.ClaimJoined
import GoSem.ClaimMapViews
import Derived.JoinedTies
import Derived.KernelRfl
namespace Go.Proofs.Ytgelhndjdngdnaa
/- THE CELL 'sum', in the pinned program and in every row, IS THE sha256 OF THE DUMP (.gsa) THAT YtgelhndjdngdnaaProg.lean LOADS. Nothing in Lean hashes anything: it is a label: what it is worth is what the hold of that sum in a sandbox is worth. -/
noncomputable def Try.pinned : Pinned := { name := "ytgelhndjdngdnaa", sum := "ac6adfd81d96623718d8a56c77543cdaaf57715579c0d550ec935d6c6fba742c", checked := Try.checked }
namespace Rows
def none {H : Type} : Left H := { results := [], args := [] }

/-- 'observatorylaw11.AirmassMatchesReference': WHATEVER THE INPUT: true; the input reads as it did. -/
def airmassMatchesReferenceSpec : ChangeSpec := { name := "airmassMatchesReference", fn := fun _ => fun
  | [d1, d2, d3, d4, d5, d6, d7] => { results := [.lit (.bool true)], args := [d1, d2, d3, d4, d5, d6, d7] }
  | _ => none }
def airmassMatchesReferenceRow : OpenClaim := { program := "ytgelhndjdngdnaa", sum := "ac6adfd81d96623718d8a56c77543cdaaf57715579c0d550ec935d6c6fba742c", func := "observatory/observatorylaw11.AirmassMatchesReference", spec := "airmassMatchesReference", unfollowed := true, recurses := true, apart := false }
def AirmassMatchesReferenceSaid : Prop := airmassMatchesReferenceRow.holds Try.pinned (OpenSpec.ofChange airmassMatchesReferenceSpec)

/-- ITS FALSE NEIGHBOUR: 'it returns false'. Refute it at one input. -/
def airmassMatchesReferenceWrong : ChangeSpec := { name := "airmassMatchesReference", fn := fun _ => fun
  | [d1, d2, d3, d4, d5, d6, d7] => { results := [.lit (.bool false)], args := [d1, d2, d3, d4, d5, d6, d7] }
  | _ => none }
def AirmassMatchesReferenceWrongFalsely : Prop := airmassMatchesReferenceRow.holds Try.pinned (OpenSpec.ofChange airmassMatchesReferenceWrong)

/-- 'observatorylaw11.AirmassHours': WHATEVER THE INPUT: true; the input reads as it did. -/
def airmassHoursSpec : ChangeSpec := { name := "airmassHours", fn := fun _ => fun
  | [d1, d2] => { results := [.lit (.bool true)], args := [d1, d2] }
  | _ => none }
def airmassHoursRow : OpenClaim := { program := "ytgelhndjdngdnaa", sum := "ac6adfd81d96623718d8a56c77543cdaaf57715579c0d550ec935d6c6fba742c", func := "observatory/observatorylaw11.AirmassHours", spec := "airmassHours", unfollowed := true, recurses := true, apart := false }
def AirmassHoursSaid : Prop := airmassHoursRow.holds Try.pinned (OpenSpec.ofChange airmassHoursSpec)

/-- ITS FALSE NEIGHBOUR: 'it returns false'. Refute it at one input. -/
def airmassHoursWrong : ChangeSpec := { name := "airmassHours", fn := fun _ => fun
  | [d1, d2] => { results := [.lit (.bool false)], args := [d1, d2] }
  | _ => none }
def AirmassHoursWrongFalsely : Prop := airmassHoursRow.holds Try.pinned (OpenSpec.ofChange airmassHoursWrong)

/-- 'observatorylaw11.AirmassHeights': WHATEVER THE INPUT: true; the input reads as it did. -/
def airmassHeightsSpec : ChangeSpec := { name := "airmassHeights", fn := fun _ => fun
  | [d1, d2, d3, d4, d5] => { results := [.lit (.bool true)], args := [d1, d2, d3, d4, d5] }
  | _ => none }
def airmassHeightsRow : OpenClaim := { program := "ytgelhndjdngdnaa", sum := "ac6adfd81d96623718d8a56c77543cdaaf57715579c0d550ec935d6c6fba742c", func := "observatory/observatorylaw11.AirmassHeights", spec := "airmassHeights", unfollowed := true, recurses := true, apart := false }
def AirmassHeightsSaid : Prop := airmassHeightsRow.holds Try.pinned (OpenSpec.ofChange airmassHeightsSpec)

/-- ITS FALSE NEIGHBOUR: 'it returns false'. Refute it at one input. -/
def airmassHeightsWrong : ChangeSpec := { name := "airmassHeights", fn := fun _ => fun
  | [d1, d2, d3, d4, d5] => { results := [.lit (.bool false)], args := [d1, d2, d3, d4, d5] }
  | _ => none }
def AirmassHeightsWrongFalsely : Prop := airmassHeightsRow.holds Try.pinned (OpenSpec.ofChange airmassHeightsWrong)

/-- 'observatorylaw11.AirmassAngles': WHATEVER THE INPUT: true; the input reads as it did. -/
def airmassAnglesSpec : ChangeSpec := { name := "airmassAngles", fn := fun _ => fun
  | [d1, d2, d3, d4] => { results := [.lit (.bool true)], args := [d1, d2, d3, d4] }
  | _ => none }
def airmassAnglesRow : OpenClaim := { program := "ytgelhndjdngdnaa", sum := "ac6adfd81d96623718d8a56c77543cdaaf57715579c0d550ec935d6c6fba742c", func := "observatory/observatorylaw11.AirmassAngles", spec := "airmassAngles", unfollowed := true, recurses := true, apart := false }
def AirmassAnglesSaid : Prop := airmassAnglesRow.holds Try.pinned (OpenSpec.ofChange airmassAnglesSpec)

/-- ITS FALSE NEIGHBOUR: 'it returns false'. Refute it at one input. -/
def airmassAnglesWrong : ChangeSpec := { name := "airmassAngles", fn := fun _ => fun
  | [d1, d2, d3, d4] => { results := [.lit (.bool false)], args := [d1, d2, d3, d4] }
  | _ => none }
def AirmassAnglesWrongFalsely : Prop := airmassAnglesRow.holds Try.pinned (OpenSpec.ofChange airmassAnglesWrong)

/-- 'observatorylaw11.AirmassFalls': WHATEVER THE INPUT: true; the input reads as it did. -/
def airmassFallsSpec : ChangeSpec := { name := "airmassFalls", fn := fun _ => fun
  | [d1, d2] => { results := [.lit (.bool true)], args := [d1, d2] }
  | _ => none }
def airmassFallsRow : OpenClaim := { program := "ytgelhndjdngdnaa", sum := "ac6adfd81d96623718d8a56c77543cdaaf57715579c0d550ec935d6c6fba742c", func := "observatory/observatorylaw11.AirmassFalls", spec := "airmassFalls", unfollowed := true, recurses := true, apart := false }
def AirmassFallsSaid : Prop := airmassFallsRow.holds Try.pinned (OpenSpec.ofChange airmassFallsSpec)

/-- ITS FALSE NEIGHBOUR: 'it returns false'. Refute it at one input. -/
def airmassFallsWrong : ChangeSpec := { name := "airmassFalls", fn := fun _ => fun
  | [d1, d2] => { results := [.lit (.bool false)], args := [d1, d2] }
  | _ => none }
def AirmassFallsWrongFalsely : Prop := airmassFallsRow.holds Try.pinned (OpenSpec.ofChange airmassFallsWrong)

/-- 'observatorylaw11.AirmassWindows': WHATEVER THE INPUT: true; the input reads as it did. -/
def airmassWindowsSpec : ChangeSpec := { name := "airmassWindows", fn := fun _ => fun
  | [d1, d2, d3, d4, d5] => { results := [.lit (.bool true)], args := [d1, d2, d3, d4, d5] }
  | _ => none }
def airmassWindowsRow : OpenClaim := { program := "ytgelhndjdngdnaa", sum := "ac6adfd81d96623718d8a56c77543cdaaf57715579c0d550ec935d6c6fba742c", func := "observatory/observatorylaw11.AirmassWindows", spec := "airmassWindows", unfollowed := true, recurses := true, apart := false }
def AirmassWindowsSaid : Prop := airmassWindowsRow.holds Try.pinned (OpenSpec.ofChange airmassWindowsSpec)

/-- ITS FALSE NEIGHBOUR: 'it returns false'. Refute it at one input. -/
def airmassWindowsWrong : ChangeSpec := { name := "airmassWindows", fn := fun _ => fun
  | [d1, d2, d3, d4, d5] => { results := [.lit (.bool false)], args := [d1, d2, d3, d4, d5] }
  | _ => none }
def AirmassWindowsWrongFalsely : Prop := airmassWindowsRow.holds Try.pinned (OpenSpec.ofChange airmassWindowsWrong)

/-- 'observatorylaw11.AirmassTransits': WHATEVER THE INPUT: true; the input reads as it did. -/
def airmassTransitsSpec : ChangeSpec := { name := "airmassTransits", fn := fun _ => fun
  | [d1, d2, d3] => { results := [.lit (.bool true)], args := [d1, d2, d3] }
  | _ => none }
def airmassTransitsRow : OpenClaim := { program := "ytgelhndjdngdnaa", sum := "ac6adfd81d96623718d8a56c77543cdaaf57715579c0d550ec935d6c6fba742c", func := "observatory/observatorylaw11.AirmassTransits", spec := "airmassTransits", unfollowed := true, recurses := true, apart := false }
def AirmassTransitsSaid : Prop := airmassTransitsRow.holds Try.pinned (OpenSpec.ofChange airmassTransitsSpec)

/-- ITS FALSE NEIGHBOUR: 'it returns false'. Refute it at one input. -/
def airmassTransitsWrong : ChangeSpec := { name := "airmassTransits", fn := fun _ => fun
  | [d1, d2, d3] => { results := [.lit (.bool false)], args := [d1, d2, d3] }
  | _ => none }
def AirmassTransitsWrongFalsely : Prop := airmassTransitsRow.holds Try.pinned (OpenSpec.ofChange airmassTransitsWrong)

/- THE SECOND FORM. 'bulk': how many values and letters a reading holds, each counted each time it is reached (what is shared counts as often as it is met; a slice's spare places count too). A statement '..UptoSaid' is the law's where the arguments, and the package variables that the reading takes, are together of bulk at most 1048576: NARROWER than '..Said'. Prove '..Said' where nothing that the law and all that it calls make is longer than what came in: it says more and counts as full. Else prove '..UptoSaid'. A law counts once. -/
mutual
def uptoBulk {H : Type} : DataW H → Nat
  | .lit (.string bytes) => bytes.length + 1
  | .lit _ => 1
  | .nil => 1
  | .ptr d => uptoBulk d + 1
  | .slice elems spare => uptoBulkAll elems + uptoBulkAll spare + 1
  | .agg parts => uptoBulkAll parts + 1
  | .iface _ d => uptoBulk d + 1
  | .map entries => uptoBulkEntries entries + 1
  | .held _ => 1
def uptoBulkAll {H : Type} : List (DataW H) → Nat
  | [] => 0
  | d :: r => uptoBulk d + uptoBulkAll r
def uptoBulkEntries {H : Type} : List (Lit × DataW H) → Nat
  | [] => 0
  | x :: r => uptoBulkEntry x + uptoBulkEntries r
def uptoBulkEntry {H : Type} : Lit × DataW H → Nat
  | (.string bytes, d) => bytes.length + uptoBulk d + 1
  | (_, d) => uptoBulk d + 1
 end
def uptoSmall : (H : Type) → List (DataW H) → Bool := fun _ ds => decide (uptoBulkAll ds ≤ 1048576)
def OpenSpec.upto (s : _root_.Go.ChangeSpec) : _root_.Go.OpenSpec := { _root_.Go.OpenSpec.ofChange s with cond := some uptoSmall }

/-- 'observatorylaw11.AirmassMatchesReference', WHERE WHAT IT READS IS OF BULK AT MOST 1048576: true; the input reads as it did. -/
def airmassMatchesReferenceUptoRow : OpenClaim := { program := "ytgelhndjdngdnaa", sum := "ac6adfd81d96623718d8a56c77543cdaaf57715579c0d550ec935d6c6fba742c", func := "observatory/observatorylaw11.AirmassMatchesReference", spec := "airmassMatchesReference", unfollowed := true, recurses := true, apart := false, narrowed := true }
def AirmassMatchesReferenceUptoSaid : Prop := airmassMatchesReferenceUptoRow.holds Try.pinned (OpenSpec.upto airmassMatchesReferenceSpec)

/-- 'observatorylaw11.AirmassHours', WHERE WHAT IT READS IS OF BULK AT MOST 1048576: true; the input reads as it did. -/
def airmassHoursUptoRow : OpenClaim := { program := "ytgelhndjdngdnaa", sum := "ac6adfd81d96623718d8a56c77543cdaaf57715579c0d550ec935d6c6fba742c", func := "observatory/observatorylaw11.AirmassHours", spec := "airmassHours", unfollowed := true, recurses := true, apart := false, narrowed := true }
def AirmassHoursUptoSaid : Prop := airmassHoursUptoRow.holds Try.pinned (OpenSpec.upto airmassHoursSpec)

/-- 'observatorylaw11.AirmassHeights', WHERE WHAT IT READS IS OF BULK AT MOST 1048576: true; the input reads as it did. -/
def airmassHeightsUptoRow : OpenClaim := { program := "ytgelhndjdngdnaa", sum := "ac6adfd81d96623718d8a56c77543cdaaf57715579c0d550ec935d6c6fba742c", func := "observatory/observatorylaw11.AirmassHeights", spec := "airmassHeights", unfollowed := true, recurses := true, apart := false, narrowed := true }
def AirmassHeightsUptoSaid : Prop := airmassHeightsUptoRow.holds Try.pinned (OpenSpec.upto airmassHeightsSpec)

/-- 'observatorylaw11.AirmassAngles', WHERE WHAT IT READS IS OF BULK AT MOST 1048576: true; the input reads as it did. -/
def airmassAnglesUptoRow : OpenClaim := { program := "ytgelhndjdngdnaa", sum := "ac6adfd81d96623718d8a56c77543cdaaf57715579c0d550ec935d6c6fba742c", func := "observatory/observatorylaw11.AirmassAngles", spec := "airmassAngles", unfollowed := true, recurses := true, apart := false, narrowed := true }
def AirmassAnglesUptoSaid : Prop := airmassAnglesUptoRow.holds Try.pinned (OpenSpec.upto airmassAnglesSpec)

/-- 'observatorylaw11.AirmassFalls', WHERE WHAT IT READS IS OF BULK AT MOST 1048576: true; the input reads as it did. -/
def airmassFallsUptoRow : OpenClaim := { program := "ytgelhndjdngdnaa", sum := "ac6adfd81d96623718d8a56c77543cdaaf57715579c0d550ec935d6c6fba742c", func := "observatory/observatorylaw11.AirmassFalls", spec := "airmassFalls", unfollowed := true, recurses := true, apart := false, narrowed := true }
def AirmassFallsUptoSaid : Prop := airmassFallsUptoRow.holds Try.pinned (OpenSpec.upto airmassFallsSpec)

/-- 'observatorylaw11.AirmassWindows', WHERE WHAT IT READS IS OF BULK AT MOST 1048576: true; the input reads as it did. -/
def airmassWindowsUptoRow : OpenClaim := { program := "ytgelhndjdngdnaa", sum := "ac6adfd81d96623718d8a56c77543cdaaf57715579c0d550ec935d6c6fba742c", func := "observatory/observatorylaw11.AirmassWindows", spec := "airmassWindows", unfollowed := true, recurses := true, apart := false, narrowed := true }
def AirmassWindowsUptoSaid : Prop := airmassWindowsUptoRow.holds Try.pinned (OpenSpec.upto airmassWindowsSpec)

/-- 'observatorylaw11.AirmassTransits', WHERE WHAT IT READS IS OF BULK AT MOST 1048576: true; the input reads as it did. -/
def airmassTransitsUptoRow : OpenClaim := { program := "ytgelhndjdngdnaa", sum := "ac6adfd81d96623718d8a56c77543cdaaf57715579c0d550ec935d6c6fba742c", func := "observatory/observatorylaw11.AirmassTransits", spec := "airmassTransits", unfollowed := true, recurses := true, apart := false, narrowed := true }
def AirmassTransitsUptoSaid : Prop := airmassTransitsUptoRow.holds Try.pinned (OpenSpec.upto airmassTransitsSpec)

end Rows
end Go.Proofs.Ytgelhndjdngdnaa
