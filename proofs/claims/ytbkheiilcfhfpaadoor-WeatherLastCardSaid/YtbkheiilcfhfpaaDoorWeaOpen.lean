/- weather: a law's arguments: a spell, a slice of spells -/
import Derived.Test.YtbkheiilcfhfpaaDoorWeaAll
import Derived.Lib.SmallJoins
import Derived.ChangeArms
import Derived.Deep.Fields
import Derived.Deep.Slices
namespace Go.Proofs.YtbkheiilcfhfpaaDoor
open Go.RowKit Go.ChangeShapes Go.WideShapes Go.Deep Go.Joins

structure SpWf (s : Sp) : Prop where
  k : (Lit.int .i64 s.k).wf = true
  q : (Lit.int .i64 s.q).wf = true
  n : (Lit.int .i64 s.n).wf = true
  a : (Lit.int .i64 s.a).wf = true
  b : (Lit.int .i64 s.b).wf = true
section
variable {H : Type} {enc : TypeId × Value → H} {W : World} {base b0 : Nat} {sp : Nat → Bool} {held : Bool} {r : Reach}
set_option maxRecDepth 100000 in
theorem open_spell_cells {fuel : Nat} {cs : List Value} {x : DataW H × List MemPlace} (hl : cs.length = 5) (hf : DataW.trod enc Tryd.prog W base sp held fuel 32 cs = some x) : ∃ s : Sp, cs = s.cells ∧ SpWf s := by
  have hI : Tryd.prog.cellsOf 3 = 1 := by kernel_rfl
  match cs, hl with
  | [c0, c1, c2, c3, c4], _ =>
    obtain ⟨zs, m, _, _, _, hlen2, hk⟩ := DataW.trod_struct Tryd.underlying32 hf
    match zs, hlen2 with
    | [z0, z1, z2, z3, z4], _ =>
      have k0 : DataW.trod enc Tryd.prog W base sp held m 3 [c0] = some z0 := by simpa [hI] using hk 0 _ rfl
      have k1 : DataW.trod enc Tryd.prog W base sp held m 3 [c1] = some z1 := by simpa [hI] using hk 1 _ rfl
      have k2 : DataW.trod enc Tryd.prog W base sp held m 3 [c2] = some z2 := by simpa [hI] using hk 2 _ rfl
      have k3 : DataW.trod enc Tryd.prog W base sp held m 3 [c3] = some z3 := by simpa [hI] using hk 3 _ rfl
      have k4 : DataW.trod enc Tryd.prog W base sp held m 3 [c4] = some z4 := by simpa [hI] using hk 4 _ rfl
      obtain ⟨b0, f0, _, w0⟩ := DataW.trod_int Tryd.underlying3 k0
      obtain ⟨b1, f1, _, w1⟩ := DataW.trod_int Tryd.underlying3 k1
      obtain ⟨b2, f2, _, w2⟩ := DataW.trod_int Tryd.underlying3 k2
      obtain ⟨b3, f3, _, w3⟩ := DataW.trod_int Tryd.underlying3 k3
      obtain ⟨b4, f4, _, w4⟩ := DataW.trod_int Tryd.underlying3 k4
      simp at f0 f1 f2 f3 f4
      subst f0 f1 f2 f3 f4
      exact ⟨⟨b0, b1, b2, b3, b4⟩, rfl, w0, w1, w2, w3, w4⟩
set_option maxRecDepth 100000 in
theorem open_spell {v : Value} {d : DataW H} {p : List MemPlace} (hv : Value.okWide Tryd.prog W r b0 32 v) (h : DataW.Trod enc Tryd.prog W base sp held 32 v d p) : ∃ s : Sp, v = s.v ∧ SpWf s := by
  obtain ⟨cs, rfl, hsz⟩ := okWide_struct Tryd.underlying32 hv
  obtain ⟨l⟩ := cs
  have hC : Tryd.prog.cellsOf 32 = 5 := by kernel_rfl
  obtain ⟨fuel, hf⟩ := h
  obtain ⟨s, e, hw⟩ := open_spell_cells (hsz.trans hC) hf
  exact ⟨s, by show Value.agg ⟨l⟩ = _; rw [show l = s.cells from e]; rfl, hw⟩
/-- a slice of spells, as a law gets it -/
structure SpsArg (w : World) (ao : Option Addr) (len cap : Nat) (L : List Sp) : Prop where
  hlen : L.length = len
  sps : len ≤ 1000 → Sps w ao L
  wf : ∀ s ∈ L, SpWf s
  hcap : len ≤ cap
  hmax : cap ≤ maxLen
  hnil : ao = none → cap = 0
theorem SpsArg.spot {w : World} {ao : Option Addr} {len cap : Nat} {L : List Sp} (_h : SpsArg w ao len cap L) : True := trivial
set_option maxRecDepth 100000 in
theorem open_spells {v : Value} {d : DataW H} {p : List MemPlace} (hv : Value.okWide Tryd.prog W r b0 22 v) (h : DataW.Trod enc Tryd.prog W base sp held 22 v d p) :
    ∃ ao len cap L, v = .slice ao len cap ∧ SpsArg W ao len cap L := by
  obtain ⟨a, len, cap, rfl⟩ := okWide_slice Tryd.underlying22 hv
  have hC : Tryd.prog.cellsOf 32 = 5 := by kernel_rfl
  obtain ⟨fuel, hf⟩ := h
  rcases open_slice Tryd.underlying22 hf with ⟨hcs, _⟩ | ⟨x, l, c, m, n, D, Pl, hcs, _, hl, hm, hmm, _, hel⟩
  · simp [Value.cells] at hcs
    obtain ⟨rfl, rfl, rfl⟩ := hcs
    exact ⟨none, 0, 0, [], rfl, rfl, fun _ => ⟨by simp [spsCells], by simp [spsCells]⟩, by simp, Nat.le_refl _, by unfold maxLen; omega, fun _ => rfl⟩
  · simp [Value.cells] at hcs
    obtain ⟨rfl, rfl, rfl⟩ := hcs
    have hlm : len ≤ m := by rw [hmm]; split <;> omega
    have hE : ∀ i, i < len → ∃ s : Sp, SpWf s ∧ ∀ j, j < 5 → W.cell? ((x.add (i * 5)).add j) = s.cells[j]? := by
      intro i hi
      obtain ⟨cs', h1, h2⟩ := hel i (by omega)
      rw [hC] at h1
      obtain ⟨_, hl5, hcell⟩ := World.cells?_some h1
      obtain ⟨s, e, hw⟩ := open_spell_cells hl5 h2
      exact ⟨s, hw, fun j hj => by rw [hcell j hj, e]⟩
    obtain ⟨f, hf⟩ : ∃ f : Nat → Sp, ∀ i, i < len → SpWf (f i) ∧ ∀ j, j < 5 → W.cell? ((x.add (i * 5)).add j) = (f i).cells[j]? :=
      ⟨fun i => if h : i < len then (hE i h).choose else ⟨0, 0, 0, 0, 0⟩, fun i hi => by simp only [dif_pos hi]; exact (hE i hi).choose_spec⟩
    refine ⟨some x, len, cap, (List.range len).map f, rfl, by simp, fun hle => ?_, ?_, hl, hm, fun h => by cases h⟩
    · obtain ⟨b, off, spot⟩ := x
      refine ⟨by rw [spsCells_len]; simp; unfold maxLen; omega, fun q v hq => ?_⟩
      have hql : q < 5 * len := by
        have := (List.getElem?_eq_some_iff.1 hq).1
        rw [spsCells_len] at this
        simpa using this
      obtain ⟨i, j, hij, hj⟩ : ∃ i j, q = i * 5 + j ∧ j < 5 := ⟨q / 5, q % 5, by omega, by omega⟩
      have hi : i < len := by omega
      rw [hij, spsCells_get _ i (f i) (by simp [hi]) j hj] at hq
      have h0 := (hf i hi).2 j hj
      rw [hq, add_add, ← hij] at h0
      have hs : spot = none := by
        have hc0 := (hf 0 (by omega)).2 0 (by omega)
        rw [add_add] at hc0
        have e0 : (⟨b, off, spot⟩ : Addr).add (0 * 5 + 0) = ⟨b, off, spot⟩ := rfl
        rw [e0] at hc0
        exact World.cell?_spot (w := W) (by rw [hc0]; rfl)
      subst hs
      rw [addr_add] at h0
      exact ⟨b, off, rfl, World.block_lt_of_cell? W _ h0, h0⟩
    · intro s hs
      obtain ⟨i, hi, rfl⟩ := List.mem_map.1 hs
      exact (hf i (List.mem_range.1 hi)).1
end
end Go.Proofs.YtbkheiilcfhfpaaDoor
