/- unit: what unit.names holds -/
import Derived.Test.YtmfoincmjpogmaaDoorUnitLaid
namespace Go.Proofs.YtmfoincmjpogmaaDoor
open Go.RowKit Go.Shelf

theorem gUN : Tryd.prog.globalNamed "observatory/unit.names" = some 0 := by kernel_rfl
theorem gUNType : (Tryd.prog.globals[0]?).map (·.type) = some 47 := by kernel_rfl
theorem names_of (W : World) (h : laidMetH Tryd.prog laid5 W) : Names W := by
  rw [MakeChecks.laidMetH_plain _ _ _ (by kernel_rfl)] at h
  obtain ⟨g, t, cs, fuel, p, hg, hty, hvar, hd⟩ := Lib.laidMet.reads h (n := "observatory/unit.names") (d := Rows.laid_observatory_unit_names) (by simp [laid5])
  obtain rfl := Option.some.inj (gUN.symm.trans hg)
  obtain rfl := Option.some.inj (gUNType.symm.trans hty)
  have hS : Tryd.prog.cellsOf 9 = 1 := cellsStr
  have key : ∀ i (hi : i < 3) (d : DataW Unit) (l : List UInt8), [DataW.lit (.string [99, 111, 117, 110, 116, 115]), .lit (.string [101, 108, 101, 99, 116, 114, 111, 110, 115]), .lit (.string [115, 101, 99, 111, 110, 100, 115])][i]? = some d → d = .lit (.string l) → W.cell? ⟨0, i, none⟩ = some (.string ⟨l.toArray⟩) := by
    intro i hi d l hdi hdl
    obtain ⟨fuel', d', q, hdi', he⟩ := Lib.array_elem Tryd.underlying47 hd i hi
    rw [hdi] at hdi'
    obtain rfl := Option.some.inj hdi'
    rw [hS] at he
    obtain ⟨s, e0, e1, _⟩ := DataW.trod_string Tryd.underlying9 he
    rw [World.var?_cell hg hvar i, ← Array.getElem?_toList]
    have := congrArg (·[0]?) e0
    simp [List.getElem?_drop] at this
    rw [hdl] at e1
    simp only [Prod.mk.injEq, DataW.lit.injEq, Lit.string.injEq] at e1
    obtain ⟨rfl, -⟩ := e1
    simpa using this
  exact ⟨key 0 (by omega) _ _ rfl rfl, key 1 (by omega) _ _ rfl rfl, key 2 (by omega) _ _ rfl rfl⟩
end Go.Proofs.YtmfoincmjpogmaaDoor
