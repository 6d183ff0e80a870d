/- unit: a law's arguments: a unit -/
import Derived.Test.YtmfoincmjpogmaaDoorUnitHead
import Derived.Lib.SmallJoins
import Derived.ChangeArms
import Derived.Deep.Fields
namespace Go.Proofs.YtmfoincmjpogmaaDoor
open Go.RowKit Go.ChangeShapes Go.WideShapes Go.Deep Go.Joins

structure UnitWf (u : U) : Prop where
  a : (Lit.int .i64 u.a).wf = true
  b : (Lit.int .i64 u.b).wf = true
  c : (Lit.int .i64 u.c).wf = true
section
variable {H : Type} {enc : TypeId × Value → H} {W : World} {base b0 : Nat} {sp : Nat → Bool} {held : Bool} {r : Reach}
set_option maxRecDepth 100000 in
theorem open_unit {v : Value} {d : DataW H} {p : List MemPlace} (hv : Value.okWide Tryd.prog W r b0 23 v) (h : DataW.Trod enc Tryd.prog W base sp held 23 v d p) : ∃ t : U, v = uV t ∧ UnitWf t := by
  obtain ⟨v0, v1, v2, y0, y1, y2, n, rfl, _, _, h0, h1, h2⟩ := open_agg3 Tryd.underlying23 (by kernel_rfl) (by kernel_rfl) hv h
  obtain ⟨a, e0, _, w0⟩ := DataW.trod_int Tryd.underlying3 h0
  obtain ⟨b, e1, _, w1⟩ := DataW.trod_int Tryd.underlying3 h1
  obtain ⟨c, e2, _, w2⟩ := DataW.trod_int Tryd.underlying3 h2
  simp at e0 e1 e2
  subst e0 e1 e2
  exact ⟨⟨a, b, c⟩, rfl, w0, w1, w2⟩
end
end Go.Proofs.YtmfoincmjpogmaaDoor
