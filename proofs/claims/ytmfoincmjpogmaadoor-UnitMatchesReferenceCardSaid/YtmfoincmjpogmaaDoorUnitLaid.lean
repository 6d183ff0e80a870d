/- unit: from the row's list of variables to what my walks lean on; the door's own heap meets the list. -/
import Derived.Test.YtmfoincmjpogmaaDoorUnitTx
import Derived.Lib.LaidU8
import Derived.Test.YtmfoincmjpogmaaDoorRows
import Derived.Stop.LaidErr
import Derived.LaidMore
import Derived.MakeChecks
import Derived.ProofKit
import Derived.OpenShut
import Derived.Stop.Joined
namespace Go.Proofs.YtmfoincmjpogmaaDoor
open Go.RowKit Go.Shelf

def laid5 : List (String × DataW Unit) := [("math/bits.deBruijn32tab", Rows.laid_math_bits_deBruijn32tab), ("math/bits.deBruijn64tab", Rows.laid_math_bits_deBruijn64tab), ("internal/strconv.uint64pow10", Rows.laid_internal_strconv_uint64pow10), ("strconv.ErrRange", Rows.laid_strconv_ErrRange), ("strconv.ErrSyntax", Rows.laid_strconv_ErrSyntax), ("unicode.White_Space", Rows.laid_unicode_White_Space), ("strings.asciiSpace", Rows.laid_strings_asciiSpace), ("observatory/unit.names", Rows.laid_observatory_unit_names)]

theorem gES : Tryd.prog.globalNamed "strconv.ErrSyntax" = some 4 := by kernel_rfl
theorem gER : Tryd.prog.globalNamed "strconv.ErrRange" = some 5 := by kernel_rfl
theorem gPT : Tryd.prog.globalNamed "internal/strconv.uint64pow10" = some 6 := by kernel_rfl
theorem gESType : (Tryd.prog.globals[4]?).map (·.type) = some 54 := by kernel_rfl
theorem gERType : (Tryd.prog.globals[5]?).map (·.type) = some 54 := by kernel_rfl
theorem gPTType : (Tryd.prog.globals[6]?).map (·.type) = some 113 := by kernel_rfl
theorem cellsES : Tryd.prog.cellsOf 124 = 1 := by kernel_rfl
theorem cellsStr : Tryd.prog.cellsOf 9 = 1 := by kernel_rfl
theorem cellsU64 : Tryd.prog.cellsOf 84 = 1 := by kernel_rfl
theorem cellsTab : Tryd.prog.cellsOf 113 = 20 := by kernel_rfl
theorem starES : "*" ++ "errors.errorString" = "*errors.errorString" := by decide
theorem rowES (u : TypeId) (h : Tryd.prog.typeName? 3 u = some "*errors.errorString") : u = 122 :=
  typeName_ptr_named (nm := "errors.errorString") (by rw [starES]; kernel_rfl) (by kernel_rfl) (by decide) u (by rw [starES]; exact h)
theorem tabData_eq : (Rows.laid_internal_strconv_uint64pow10 : DataW Unit) = Lib.tabData .u64 Lib.pow10Tab := by rfl

theorem lay_of (W : World) (h : laidMetH Tryd.prog laid5 W) : Lay W := by
  rw [MakeChecks.laidMetH_plain _ _ _ (by kernel_rfl)] at h
  have h3 := h.tail.tail
  rw [tabData_eq] at h3
  obtain ⟨a0, s0, hv0, -, -, -⟩ := laid_sentinel h3.tail gER gERType Tryd.underlying54 rowES Tryd.underlying122 Tryd.underlying124 rfl rfl Tryd.underlying9 cellsES cellsStr
  obtain ⟨a1, s1, hv1, -, -, -⟩ := laid_sentinel h3.tail.tail gES gESType Tryd.underlying54 rowES Tryd.underlying122 Tryd.underlying124 rfl rfl Tryd.underlying9 cellsES cellsStr
  exact ⟨Lib.tabIs_of_head gPT gPTType Tryd.underlying113 Tryd.underlying84 cellsU64 cellsTab h3, ⟨_, _, hv1⟩, _, _, hv0⟩

theorem gAS : Tryd.prog.globalNamed "strings.asciiSpace" = some 1 := by kernel_rfl
theorem gASType : (Tryd.prog.globals[1]?).map (·.type) = some 64 := by kernel_rfl
theorem cellsU8 : Tryd.prog.cellsOf 5 = 1 := by kernel_rfl
theorem cellsAS : Tryd.prog.cellsOf 64 = 256 := by kernel_rfl
set_option maxRecDepth 100000 in
theorem ascData_eq : (Rows.laid_strings_asciiSpace : DataW Unit) = Lib.tabData .u8 Lib.asciiSpaceTab := by rfl
theorem whiteData_eq : (Rows.laid_unicode_White_Space : DataW Unit) = Lib.whiteData := by rfl
theorem whiteX : WhiteExtra Tryd.prog Tryd.lays199_ren := ⟨by kernel_rfl, by kernel_rfl, by kernel_rfl, by kernel_rfl, by kernel_rfl, by kernel_rfl, by kernel_rfl, by kernel_rfl⟩
theorem space_of (W : World) (h : laidMetH Tryd.prog laid5 W) : Lib.TabIs Tryd.prog W "strings.asciiSpace" .u8 Lib.asciiSpaceTab ∧ Lib.WhiteTab 2 W := by
  rw [MakeChecks.laidMetH_plain _ _ _ (by kernel_rfl)] at h
  have h6 := h.tail.tail.tail.tail.tail
  have hr := Lib.laidMet.reads h6 (n := "unicode.White_Space") (d := Rows.laid_unicode_White_Space) (by simp)
  rw [whiteData_eq] at hr
  have h7 := h6.tail
  rw [ascData_eq] at h7
  exact ⟨Lib.tabIs_of_head gAS gASType Tryd.underlying64 Tryd.underlying5 cellsU8 cellsAS h7, whiteTab_of_reads Tryd.lays199 whiteX hr⟩

/-- The door's own heap meets the condition. -/
theorem door_met (os : Os) (args : Array Value) : laidMetH Tryd.prog laid5 ((World.doorLaid Tryd.prog 400 os).forCall (fun _ _ => 0) ⟨#[], args, []⟩).memory :=
  laidMetH_of_parts3 (fuel := 8) (laidMet_of_run' 8 (by kernel_rfl) (by kernel_rfl)) (by kernel_rfl) (by kernel_rfl)
end Go.Proofs.YtmfoincmjpogmaaDoor
