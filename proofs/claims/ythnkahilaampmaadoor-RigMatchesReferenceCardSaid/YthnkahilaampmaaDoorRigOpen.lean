/- rig: a law's arguments: a telescope, a rig -/
import Derived.Test.YthnkahilaampmaaDoorRigLaw1
import Derived.Lib.SmallJoins
import Derived.ChangeArms
import Derived.Deep.Fields
namespace Go.Proofs.YthnkahilaampmaaDoor
open Go.RowKit Go.ChangeShapes Go.WideShapes Go.Deep Go.Joins

structure TelWf (t : Tel) : Prop where
  id : t.id.size ≤ maxLen
structure RigWf (r : RigT) : Prop where
  at_ : (Lit.int .i64 r.at_).wf = true
  filter : (Lit.int .i64 r.filter).wf = true
section
variable {H : Type} {enc : TypeId × Value → H} {W : World} {base b0 : Nat} {sp : Nat → Bool} {held : Bool} {r : Reach}
set_option maxRecDepth 100000 in
theorem open_rig {v : Value} {d : DataW H} {p : List MemPlace} (hv : Value.okWide Tryd.prog W r b0 27 v) (h : DataW.Trod enc Tryd.prog W base sp held 27 v d p) : ∃ t : RigT, v = rigV t ∧ RigWf t := by
  obtain ⟨v0, v1, v2, y0, y1, y2, n, rfl, _, _, h0, h1, h2⟩ := open_agg3 Tryd.underlying27 (by kernel_rfl) (by kernel_rfl) hv h
  obtain ⟨a, e0, _, w0⟩ := DataW.trod_int Tryd.underlying3 h0
  obtain ⟨b, e1, _, w1⟩ := DataW.trod_int Tryd.underlying3 h1
  obtain ⟨c, e2, _⟩ := DataW.trod_bool Tryd.underlying4 h2
  simp at e0 e1 e2
  subst e0 e1 e2
  exact ⟨⟨a, b, c⟩, rfl, w0, w1⟩
set_option maxRecDepth 100000 in
theorem open_tel {v : Value} {d : DataW H} {p : List MemPlace} (hv : Value.okWide Tryd.prog W r b0 25 v) (h : DataW.Trod enc Tryd.prog W base sp held 25 v d p) : ∃ t : Tel, v = telV t ∧ TelWf t := by
  obtain ⟨cs, rfl, hsz⟩ := okWide_struct Tryd.underlying25 hv
  obtain ⟨l⟩ := cs
  have hC : Tryd.prog.cellsOf 25 = 9 := by kernel_rfl
  have hD : Tryd.prog.cellsOf 23 = 5 := by kernel_rfl
  have hI : Tryd.prog.cellsOf 3 = 1 := by kernel_rfl
  have hS : Tryd.prog.cellsOf 9 = 1 := by kernel_rfl
  match l, hsz.trans hC with
  | [c0, c1, c2, c3, c4, c5, c6, c7, c8], _ =>
    obtain ⟨fuel, hf⟩ := h
    obtain ⟨xs, n, _, hx, _, hlen, hg⟩ := DataW.trod_struct Tryd.underlying25 hf
    match xs, hlen with
    | [y0, y1, y2, y3, y4], _ =>
      have g0 : DataW.trod enc Tryd.prog W base sp held n 9 [c0] = some y0 := by simpa [Value.cells, hS] using hg 0 _ rfl
      have g1 : DataW.trod enc Tryd.prog W base sp held n 3 [c1] = some y1 := by simpa [Value.cells, hI] using hg 1 _ rfl
      have g2 : DataW.trod enc Tryd.prog W base sp held n 3 [c2] = some y2 := by simpa [Value.cells, hI] using hg 2 _ rfl
      have g3 : DataW.trod enc Tryd.prog W base sp held n 3 [c3] = some y3 := by simpa [Value.cells, hI] using hg 3 _ rfl
      have g4 : DataW.trod enc Tryd.prog W base sp held n 23 [c4, c5, c6, c7, c8] = some y4 := by simpa [Value.cells, hD] using hg 4 _ rfl
      obtain ⟨s, e0, _, w0⟩ := DataW.trod_string Tryd.underlying9 g0
      obtain ⟨a1, e1, _, _⟩ := DataW.trod_int Tryd.underlying3 g1
      obtain ⟨a2, e2, _, _⟩ := DataW.trod_int Tryd.underlying3 g2
      obtain ⟨a3, e3, _, _⟩ := DataW.trod_int Tryd.underlying3 g3
      obtain ⟨zs, m, _, _, _, hlen2, hk⟩ := DataW.trod_struct Tryd.underlying23 g4
      match zs, hlen2 with
      | [z0, z1, z2, z3, z4], _ =>
        have k0 : DataW.trod enc Tryd.prog W base sp held m 3 [c4] = some z0 := by simpa [hI] using hk 0 _ rfl
        have k1 : DataW.trod enc Tryd.prog W base sp held m 3 [c5] = some z1 := by simpa [hI] using hk 1 _ rfl
        have k2 : DataW.trod enc Tryd.prog W base sp held m 3 [c6] = some z2 := by simpa [hI] using hk 2 _ rfl
        have k3 : DataW.trod enc Tryd.prog W base sp held m 3 [c7] = some z3 := by simpa [hI] using hk 3 _ rfl
        have k4 : DataW.trod enc Tryd.prog W base sp held m 3 [c8] = some z4 := by simpa [hI] using hk 4 _ rfl
        obtain ⟨b0, f0, _, _⟩ := DataW.trod_int Tryd.underlying3 k0
        obtain ⟨b1, f1, _, _⟩ := DataW.trod_int Tryd.underlying3 k1
        obtain ⟨b2, f2, _, _⟩ := DataW.trod_int Tryd.underlying3 k2
        obtain ⟨b3, f3, _, _⟩ := DataW.trod_int Tryd.underlying3 k3
        obtain ⟨b4, f4, _, _⟩ := DataW.trod_int Tryd.underlying3 k4
        simp at e0 e1 e2 e3 f0 f1 f2 f3 f4
        subst e0 e1 e2 e3 f0 f1 f2 f3 f4
        exact ⟨⟨s, a1, a2, a3, b0, b1, b2, b3, b4⟩, rfl, ⟨w0⟩⟩
end
theorem turns_fin (t : Tel) (a b c : Int) (w : World) (h : TelWf t) (_h1 : (Lit.int .i64 a).wf = true) (_h2 : (Lit.int .i64 b).wf = true) (_h3 : (Lit.int .i64 c).wf = true) :
    Calls Tryd.prog 4 #[telV t, .int .i64 a, .int .i64 b, .int .i64 c] w fun e w' => e = .returned (.bool true) ∧ Below w.heap.size w w' := turns_walk t a b c w h.id
end Go.Proofs.YthnkahilaampmaaDoor
