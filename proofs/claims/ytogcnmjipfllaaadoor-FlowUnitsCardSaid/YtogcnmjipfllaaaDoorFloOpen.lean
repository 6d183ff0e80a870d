/- flow: a law's arguments: a pipeline, units -/
import Derived.Test.YtogcnmjipfllaaaDoorFloUni
import Derived.Lib.SmallJoins
import Derived.ChangeArms
import Derived.Deep.Fields
import Derived.Deep.Slices
namespace Go.Proofs.YtogcnmjipfllaaaDoor
open Go.RowKit Go.ChangeShapes Go.WideShapes Go.Deep Go.Joins

section
variable {H : Type} {enc : TypeId × Value → H} {W : World} {base b0 : Nat} {sp : Nat → Bool} {held : Bool} {r : Reach}
set_option maxRecDepth 100000 in
theorem open_stp_cells {fuel : Nat} {cs : List Value} {x : DataW H × List MemPlace} (hl : cs.length = 4) (hf : DataW.trod enc Tryd.prog W base sp held fuel 32 cs = some x) : ∃ s : Stp, cs = Stp.cells s := by
  have hI : Tryd.prog.cellsOf 3 = 1 := by kernel_rfl
  match cs, hl with
  | [c0, c1, c2, c3], _ =>
    obtain ⟨zs, m, _, _, _, hlen2, hk⟩ := DataW.trod_struct Tryd.underlying32 hf
    match zs, hlen2 with
    | [z0, z1, z2, z3], _ =>
      have k0 : DataW.trod enc Tryd.prog W base sp held m 3 [c0] = some z0 := by simpa [hI] using hk 0 _ rfl
      have k1 : DataW.trod enc Tryd.prog W base sp held m 3 [c1] = some z1 := by simpa [hI] using hk 1 _ rfl
      have k2 : DataW.trod enc Tryd.prog W base sp held m 3 [c2] = some z2 := by simpa [hI] using hk 2 _ rfl
      have k3 : DataW.trod enc Tryd.prog W base sp held m 3 [c3] = some z3 := by simpa [hI] using hk 3 _ rfl
      obtain ⟨b0, f0, _, _⟩ := DataW.trod_int Tryd.underlying3 k0
      obtain ⟨b1, f1, _, _⟩ := DataW.trod_int Tryd.underlying3 k1
      obtain ⟨b2, f2, _, _⟩ := DataW.trod_int Tryd.underlying3 k2
      obtain ⟨b3, f3, _, _⟩ := DataW.trod_int Tryd.underlying3 k3
      simp at f0 f1 f2 f3
      subst f0 f1 f2 f3
      exact ⟨⟨b0, b1, b2, b3⟩, rfl⟩
/-- a slice, as a law gets it -/
structure StpsArg (w : World) (ao : Option Addr) (len cap : Nat) (L : List Stp) : Prop where
  hlen : L.length = len
  at_ : len ≤ 1000 → Stps w ao L
  hcap : len ≤ cap
  hmax : cap ≤ maxLen
  hnil : ao = none → cap = 0
set_option maxRecDepth 100000 in
theorem open_stps_cells {fuel : Nat} {cs : List Value} {x : DataW H × List MemPlace} (hf : DataW.trod enc Tryd.prog W base sp held fuel 22 cs = some x) : ∃ ao len cap L, cs = [.slice ao len cap] ∧ StpsArg W ao len cap L := by
  have hC : Tryd.prog.cellsOf 32 = 4 := by kernel_rfl
  rcases open_slice Tryd.underlying22 hf with ⟨hcs, _⟩ | ⟨x, len, cap, m, n, D, Pl, hcs, _, hl, hm, hmm, _, hel⟩
  · exact ⟨none, 0, 0, [], hcs, rfl, fun _ => ⟨by simp [stpsCells], by simp [stpsCells]⟩, Nat.le_refl _, by unfold maxLen; omega, fun _ => rfl⟩
  · have hlm : len ≤ m := by rw [hmm]; split <;> omega
    have hE : ∀ i, i < len → ∃ s : Stp, ∀ j, j < 4 → W.cell? ((x.add (i * 4)).add j) = (Stp.cells s)[j]? := by
      intro i hi
      obtain ⟨cs', h1, h2⟩ := hel i (by omega)
      rw [hC] at h1
      obtain ⟨_, hl5, hcell⟩ := World.cells?_some h1
      obtain ⟨s, e⟩ := open_stp_cells hl5 h2
      exact ⟨s, fun j hj => by rw [hcell j hj, e]⟩
    obtain ⟨f, hf⟩ : ∃ f : Nat → Stp, ∀ i, i < len → ∀ j, j < 4 → W.cell? ((x.add (i * 4)).add j) = (Stp.cells (f i))[j]? :=
      ⟨fun i => if h : i < len then (hE i h).choose else ⟨0, 0, 0, 0⟩, fun i hi => by simp only [dif_pos hi]; exact (hE i hi).choose_spec⟩
    refine ⟨some x, len, cap, (List.range len).map f, hcs, by simp, fun hle => ?_, hl, hm, fun h => by cases h⟩
    obtain ⟨b, off, spot⟩ := x
    refine ⟨by rw [stpsCells_len]; simp; unfold maxLen; omega, fun q v hq => ?_⟩
    have hql : q < 4 * len := by
      have := (List.getElem?_eq_some_iff.1 hq).1
      rw [stpsCells_len] at this
      simpa using this
    obtain ⟨i, j, hij, hj⟩ : ∃ i j, q = i * 4 + j ∧ j < 4 := ⟨q / 4, q % 4, by omega, by omega⟩
    have hi : i < len := by omega
    rw [hij, stpsCells_get _ i (f i) (by simp [hi]) j hj] at hq
    have h0 := hf i hi j hj
    rw [hq, add_add, ← hij] at h0
    have hs : spot = none := by
      have hc0 := hf 0 (by omega) 0 (by omega)
      rw [add_add] at hc0
      have e0 : (⟨b, off, spot⟩ : Addr).add (0 * 4 + 0) = ⟨b, off, spot⟩ := rfl
      rw [e0] at hc0
      exact World.cell?_spot (w := W) (by rw [hc0]; rfl)
    subst hs
    rw [addr_add] at h0
    exact ⟨b, off, rfl, World.block_lt_of_cell? W _ h0, h0⟩
set_option maxRecDepth 100000 in
theorem open_stps {v : Value} {d : DataW H} {p : List MemPlace} (hv : Value.okWide Tryd.prog W r b0 22 v) (h : DataW.Trod enc Tryd.prog W base sp held 22 v d p) :
    ∃ ao len cap L, v = .slice ao len cap ∧ StpsArg W ao len cap L := by
  obtain ⟨a, len, cap, rfl⟩ := okWide_slice Tryd.underlying22 hv
  obtain ⟨fuel, hf⟩ := h
  obtain ⟨ao, l, c, L, h1, h2⟩ := open_stps_cells hf
  simp [Value.cells] at h1
  obtain ⟨rfl, rfl, rfl⟩ := h1
  exact ⟨a, len, cap, L, rfl, h2⟩
set_option maxRecDepth 100000 in
theorem open_unit_cells {fuel : Nat} {cs : List Value} {x : DataW H × List MemPlace} (hl : cs.length = 3) (hf : DataW.trod enc Tryd.prog W base sp held fuel 34 cs = some x) : ∃ s : U, cs = uCells s := by
  have hI : Tryd.prog.cellsOf 3 = 1 := by kernel_rfl
  match cs, hl with
  | [c0, c1, c2], _ =>
    obtain ⟨zs, m, _, _, _, hlen2, hk⟩ := DataW.trod_struct Tryd.underlying34 hf
    match zs, hlen2 with
    | [z0, z1, z2], _ =>
      have k0 : DataW.trod enc Tryd.prog W base sp held m 3 [c0] = some z0 := by simpa [hI] using hk 0 _ rfl
      have k1 : DataW.trod enc Tryd.prog W base sp held m 3 [c1] = some z1 := by simpa [hI] using hk 1 _ rfl
      have k2 : DataW.trod enc Tryd.prog W base sp held m 3 [c2] = some z2 := by simpa [hI] using hk 2 _ rfl
      obtain ⟨b0, f0, _, _⟩ := DataW.trod_int Tryd.underlying3 k0
      obtain ⟨b1, f1, _, _⟩ := DataW.trod_int Tryd.underlying3 k1
      obtain ⟨b2, f2, _, _⟩ := DataW.trod_int Tryd.underlying3 k2
      simp at f0 f1 f2
      subst f0 f1 f2
      exact ⟨⟨b0, b1, b2⟩, rfl⟩
/-- a slice, as a law gets it -/
structure UnsArg (w : World) (ao : Option Addr) (len cap : Nat) (L : List U) : Prop where
  hlen : L.length = len
  at_ : len ≤ 1000 → Uns w ao L
  hcap : len ≤ cap
  hmax : cap ≤ maxLen
  hnil : ao = none → cap = 0
set_option maxRecDepth 100000 in
theorem open_units_cells {fuel : Nat} {cs : List Value} {x : DataW H × List MemPlace} (hf : DataW.trod enc Tryd.prog W base sp held fuel 25 cs = some x) : ∃ ao len cap L, cs = [.slice ao len cap] ∧ UnsArg W ao len cap L := by
  have hC : Tryd.prog.cellsOf 34 = 3 := by kernel_rfl
  rcases open_slice Tryd.underlying25 hf with ⟨hcs, _⟩ | ⟨x, len, cap, m, n, D, Pl, hcs, _, hl, hm, hmm, _, hel⟩
  · exact ⟨none, 0, 0, [], hcs, rfl, fun _ => ⟨by simp [unitsC], by simp [unitsC]⟩, Nat.le_refl _, by unfold maxLen; omega, fun _ => rfl⟩
  · have hlm : len ≤ m := by rw [hmm]; split <;> omega
    have hE : ∀ i, i < len → ∃ s : U, ∀ j, j < 3 → W.cell? ((x.add (i * 3)).add j) = (uCells s)[j]? := by
      intro i hi
      obtain ⟨cs', h1, h2⟩ := hel i (by omega)
      rw [hC] at h1
      obtain ⟨_, hl5, hcell⟩ := World.cells?_some h1
      obtain ⟨s, e⟩ := open_unit_cells hl5 h2
      exact ⟨s, fun j hj => by rw [hcell j hj, e]⟩
    obtain ⟨f, hf⟩ : ∃ f : Nat → U, ∀ i, i < len → ∀ j, j < 3 → W.cell? ((x.add (i * 3)).add j) = (uCells (f i))[j]? :=
      ⟨fun i => if h : i < len then (hE i h).choose else u0, fun i hi => by simp only [dif_pos hi]; exact (hE i hi).choose_spec⟩
    refine ⟨some x, len, cap, (List.range len).map f, hcs, by simp, fun hle => ?_, hl, hm, fun h => by cases h⟩
    obtain ⟨b, off, spot⟩ := x
    refine ⟨by rw [unitsC_len]; simp; unfold maxLen; omega, fun q v hq => ?_⟩
    have hql : q < 3 * len := by
      have := (List.getElem?_eq_some_iff.1 hq).1
      rw [unitsC_len] at this
      simpa using this
    obtain ⟨i, j, hij, hj⟩ : ∃ i j, q = i * 3 + j ∧ j < 3 := ⟨q / 3, q % 3, by omega, by omega⟩
    have hi : i < len := by omega
    rw [hij, unitsC_get _ i (f i) (by simp [hi]) j hj] at hq
    have h0 := hf i hi j hj
    rw [hq, add_add, ← hij] at h0
    have hs : spot = none := by
      have hc0 := hf 0 (by omega) 0 (by omega)
      rw [add_add] at hc0
      have e0 : (⟨b, off, spot⟩ : Addr).add (0 * 3 + 0) = ⟨b, off, spot⟩ := rfl
      rw [e0] at hc0
      exact World.cell?_spot (w := W) (by rw [hc0]; rfl)
    subst hs
    rw [addr_add] at h0
    exact ⟨b, off, rfl, World.block_lt_of_cell? W _ h0, h0⟩
set_option maxRecDepth 100000 in
theorem open_units {v : Value} {d : DataW H} {p : List MemPlace} (hv : Value.okWide Tryd.prog W r b0 25 v) (h : DataW.Trod enc Tryd.prog W base sp held 25 v d p) :
    ∃ ao len cap L, v = .slice ao len cap ∧ UnsArg W ao len cap L := by
  obtain ⟨a, len, cap, rfl⟩ := okWide_slice Tryd.underlying25 hv
  obtain ⟨fuel, hf⟩ := h
  obtain ⟨ao, l, c, L, h1, h2⟩ := open_units_cells hf
  simp [Value.cells] at h1
  obtain ⟨rfl, rfl, rfl⟩ := h1
  exact ⟨a, len, cap, L, rfl, h2⟩
/-- a pipeline, as a law gets it -/
structure FlwWf (w : World) (f : Flw) (so : Option Addr) (sc : Nat) : Prop where
  steps : StpsArg w so f.steps.length sc f.steps
  size : f.name.size ≤ maxLen
structure FlwA where
  f : Flw
  so : Option Addr
  sc : Nat
def FlwA.v (a : FlwA) : Value := .agg #[.string a.f.name, .int .i64 a.f.ver, .slice a.so a.f.steps.length a.sc]
set_option maxRecDepth 100000 in
theorem open_flow {v : Value} {d : DataW H} {p : List MemPlace} (hv : Value.okWide Tryd.prog W r b0 24 v) (h : DataW.Trod enc Tryd.prog W base sp held 24 v d p) : ∃ a : FlwA, v = a.v ∧ FlwWf W a.f a.so a.sc := by
  obtain ⟨cs, rfl, hsz⟩ := okWide_struct Tryd.underlying24 hv
  obtain ⟨l⟩ := cs
  have hC : Tryd.prog.cellsOf 24 = 3 := by kernel_rfl
  have hI : Tryd.prog.cellsOf 3 = 1 := by kernel_rfl
  have hS : Tryd.prog.cellsOf 9 = 1 := by kernel_rfl
  have hL : Tryd.prog.cellsOf 22 = 1 := by kernel_rfl
  obtain ⟨fuel, hf⟩ := h
  match l, hsz.trans hC with
  | [c0, c1, c2], _ =>
    have hf' : DataW.trod enc Tryd.prog W base sp held fuel 24 [c0, c1, c2] = some _ := hf
    obtain ⟨zs, m, _, _, _, hlen2, hk⟩ := DataW.trod_struct Tryd.underlying24 hf'
    match zs, hlen2 with
    | [z0, z1, z2], _ =>
      have k0 : DataW.trod enc Tryd.prog W base sp held m 9 [c0] = some z0 := by simpa [hI, hS, hL] using hk 0 _ rfl
      have k1 : DataW.trod enc Tryd.prog W base sp held m 3 [c1] = some z1 := by simpa [hI, hS, hL] using hk 1 _ rfl
      have k2 : DataW.trod enc Tryd.prog W base sp held m 22 [c2] = some z2 := by simpa [hI, hS, hL] using hk 2 _ rfl
      obtain ⟨s, f0, _, w0⟩ := DataW.trod_string Tryd.underlying9 k0
      obtain ⟨b1, f1, _, _⟩ := DataW.trod_int Tryd.underlying3 k1
      obtain ⟨ao, len, cap, L, f2, hA⟩ := open_stps_cells k2
      simp at f0 f1 f2
      subst f0 f1 f2
      have := hA.hlen
      subst this
      exact ⟨⟨⟨s, b1, L⟩, ao, cap⟩, rfl, hA, w0⟩
end
end Go.Proofs.YtogcnmjipfllaaaDoor
