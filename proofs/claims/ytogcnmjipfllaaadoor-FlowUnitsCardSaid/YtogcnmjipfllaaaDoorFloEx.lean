/- flow: the examples of the chapter, reckoned -/
import Derived.Test.YtogcnmjipfllaaaDoorFloUni
namespace Go.Proofs.YtogcnmjipfllaaaDoor
open Go.RowKit

def exText : ByteArray := ⟨#[102, 108, 111, 119, 32, 102, 97, 115, 116, 32, 50, 32, 123, 32, 97, 32, 61, 32, 105, 110, 32, 48, 59, 32, 98, 32, 61, 32, 105, 110, 32, 49, 59, 32, 99, 32, 61, 32, 97, 32, 45, 32, 98, 59, 32, 100, 32, 61, 32, 97, 116, 108, 101, 97, 115, 116, 32, 99, 32, 53, 48, 59, 32, 118, 32, 61, 32, 105, 110, 32, 51, 59, 32, 101, 32, 61, 32, 97, 116, 108, 101, 97, 115, 116, 32, 118, 32, 49, 59, 32, 102, 32, 61, 32, 97, 110, 100, 32, 100, 32, 101, 59, 32, 111, 117, 116, 32, 102, 59, 32, 125]⟩
def exFlow : Flw := ⟨⟨#[102, 97, 115, 116]⟩, 2, [⟨1, 0, 0, 0⟩, ⟨1, 0, 0, 1⟩, ⟨3, 0, 1, 0⟩, ⟨7, 2, 0, 50⟩, ⟨1, 0, 0, 3⟩, ⟨7, 4, 0, 1⟩, ⟨8, 3, 5, 0⟩]⟩
theorem ex_parse : parF exText.data.toList = (exFlow, 0, 0) := by kernel_rfl
theorem ex_valid : fvB exFlow = true := by kernel_rfl
theorem ex_units : unitsF exFlow [⟨1, 0, 0⟩, ⟨1, 0, 0⟩, ⟨1, 0, 0⟩, ⟨1, 0, 0⟩] = ([⟨1, 0, 0⟩, ⟨1, 0, 0⟩, ⟨1, 0, 0⟩, ⟨0, 0, 0⟩, ⟨1, 0, 0⟩, ⟨0, 0, 0⟩, ⟨0, 0, 0⟩], 0) := by kernel_rfl
theorem ex_units2 : unitsF exFlow [⟨1, 0, 0⟩, ⟨0, 0, 1⟩, ⟨1, 0, 0⟩, ⟨1, 0, 0⟩] = ([], 15) := by kernel_rfl
theorem no_valid : fvB flw0 = false := by kernel_rfl
def bad1T : ByteArray := ⟨#[102, 108, 111, 119, 32, 120, 32, 49, 32, 123, 32, 97, 32, 61, 32, 105, 110, 32, 52, 59]⟩
theorem bad1_parse : parF bad1T.data.toList = (flw0, 9, 18) := by kernel_rfl
def bad2T : ByteArray := ⟨#[102, 108, 111, 119, 32, 120, 32, 49, 32, 123, 32, 97, 32, 61, 32, 105, 110, 32, 48, 59, 32, 98, 32, 61, 32, 110, 111, 116, 32, 97, 59]⟩
theorem bad2_parse : parF bad2T.data.toList = (flw0, 1, 29) := by kernel_rfl
def bad3T : ByteArray := ⟨#[102, 108, 111, 119, 32, 120, 32, 49, 32, 123, 32, 111, 117, 116, 32, 97, 59, 32, 125]⟩
theorem bad3_parse : parF bad3T.data.toList = (flw0, 7, 15) := by kernel_rfl
def bad4T : ByteArray := ⟨#[102, 108, 111, 119, 32, 120, 32, 49, 32, 123, 32, 97, 32, 61, 32, 105, 110, 32, 48, 59, 32, 111, 117, 116, 32, 97, 59, 32, 125]⟩
theorem bad4_parse : parF bad4T.data.toList = (flw0, 1, 25) := by kernel_rfl
end Go.Proofs.YtogcnmjipfllaaaDoor
