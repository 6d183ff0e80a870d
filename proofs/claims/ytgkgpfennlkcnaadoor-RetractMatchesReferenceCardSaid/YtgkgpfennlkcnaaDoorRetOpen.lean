/- retract: a law's arguments: a list of strings, entries -/
import Derived.Test.YtgkgpfennlkcnaaDoorRetHead
import Derived.Lib.SmallJoins
import Derived.ChangeArms
import Derived.Deep.Fields
import Derived.Deep.Slices
namespace Go.Proofs.YtgkgpfennlkcnaaDoor
open Go.RowKit Go.ChangeShapes Go.WideShapes Go.Deep Go.Joins

/-- a list of strings, as a law gets it -/
structure StrsArg (w : World) (ao : Option Addr) (len cap : Nat) (L : List ByteArray) : Prop where
  hlen : L.length = len
  slv : SlV w ao (strsV L)
  hcap : len ≤ cap
  hmax : cap ≤ maxLen
  hnil : ao = none → cap = 0
  size : ∀ s ∈ L, s.size ≤ maxLen
/-- an entry, as a law gets it -/
structure EntWf (w : World) (e : Ent) : Prop where
  cs : StrsArg w e.ao e.cs.length e.cap e.cs
  size : e.id.size ≤ maxLen
/-- entries, as a law gets them -/
structure EntsArg (w : World) (ao : Option Addr) (len cap : Nat) (L : List Ent) : Prop where
  hlen : L.length = len
  ents : len ≤ 1000 → Ents w ao L
  wf : ∀ e ∈ L, EntWf w e
  hcap : len ≤ cap
  hmax : cap ≤ maxLen
  hnil : ao = none → cap = 0
section
variable {H : Type} {enc : TypeId × Value → H} {W : World} {base b0 : Nat} {sp : Nat → Bool} {held : Bool} {r : Reach}
set_option maxRecDepth 100000 in
theorem open_strs_cells {fuel : Nat} {cs : List Value} {x : DataW H × List MemPlace} (hf : DataW.trod enc Tryd.prog W base sp held fuel 23 cs = some x) : ∃ ao len cap L, cs = [.slice ao len cap] ∧ StrsArg W ao len cap L := by
  rcases open_slice1 Tryd.underlying23 (by kernel_rfl) hf with ⟨hcs, _⟩ | ⟨x, len, cap, m, n, V, D, Pl, hcs, _, hl, hm, hmm, _, hel⟩
  · exact ⟨none, 0, 0, [], hcs, ⟨rfl, ⟨by simp [strsV], by simp [strsV]⟩, Nat.le_refl _, (by unfold maxLen; omega), (fun _ => rfl), (by simp)⟩⟩
  · have hlm : len ≤ m := by rw [hmm]; split <;> omega
    have hE : ∀ i, i < len → ∃ s : ByteArray, s.size ≤ maxLen ∧ W.cell? (x.add i) = some (.string s) := by
      intro i hi
      obtain ⟨h1, h2⟩ := hel i (by omega)
      obtain ⟨s, e0, e1, w0⟩ := DataW.trod_string Tryd.underlying9 h2
      simp at e0
      exact ⟨s, w0, by rw [h1, e0]⟩
    obtain ⟨f, hf⟩ : ∃ f : Nat → ByteArray, ∀ i, i < len → (f i).size ≤ maxLen ∧ W.cell? (x.add i) = some (.string (f i)) :=
      ⟨fun i => if h : i < len then (hE i h).choose else ByteArray.empty, fun i hi => by simp only [dif_pos hi]; exact (hE i hi).choose_spec⟩
    refine ⟨some x, len, cap, (List.range len).map f, hcs, ⟨by simp, ?_, hl, hm, (fun h => by cases h), ?_⟩⟩
    · obtain ⟨b, off, spot⟩ := x
      refine ⟨by unfold strsV; simp; omega, fun q v hq => ?_⟩
      have hql : q < len := by
        have := (List.getElem?_eq_some_iff.1 hq).1
        unfold strsV at this
        simpa using this
      have hv : v = .string (f q) := by
        unfold strsV at hq
        rw [List.map_map, List.getElem?_map, List.getElem?_range hql] at hq
        exact (Option.some.inj hq).symm
      have h0 := (hf q hql).2
      have hs : spot = none := by
        have hc0 := (hf 0 (by omega)).2
        have e0 : (⟨b, off, spot⟩ : Addr).add 0 = ⟨b, off, spot⟩ := rfl
        rw [e0] at hc0
        exact World.cell?_spot (w := W) (by rw [hc0])
      subst hs
      rw [addr_add] at h0
      exact ⟨b, off, rfl, World.block_lt_of_cell? W _ h0, by rw [h0, hv]⟩
    · intro s hs
      obtain ⟨i, hi, rfl⟩ := List.mem_map.1 hs
      exact (hf i (List.mem_range.1 hi)).1
set_option maxRecDepth 100000 in
theorem open_strs {v : Value} {d : DataW H} {p : List MemPlace} (hv : Value.okWide Tryd.prog W r b0 23 v) (h : DataW.Trod enc Tryd.prog W base sp held 23 v d p) :
    ∃ ao len cap L, v = .slice ao len cap ∧ StrsArg W ao len cap L := by
  obtain ⟨a, len, cap, rfl⟩ := okWide_slice Tryd.underlying23 hv
  obtain ⟨fuel, hf⟩ := h
  obtain ⟨ao, l, c, L, h1, h2⟩ := open_strs_cells hf
  simp [Value.cells] at h1
  obtain ⟨rfl, rfl, rfl⟩ := h1
  exact ⟨a, len, cap, L, rfl, h2⟩
set_option maxRecDepth 100000 in
theorem open_entry_cells {fuel : Nat} {cs : List Value} {x : DataW H × List MemPlace} (hl : cs.length = 2) (hf : DataW.trod enc Tryd.prog W base sp held fuel 31 cs = some x) : ∃ e : Ent, cs = e.cells ∧ EntWf W e := by
  have hI : Tryd.prog.cellsOf 9 = 1 := by kernel_rfl
  have hS : Tryd.prog.cellsOf 23 = 1 := by kernel_rfl
  match cs, hl with
  | [c0, c1], _ =>
    obtain ⟨zs, m, _, _, _, hlen2, hk⟩ := DataW.trod_struct Tryd.underlying31 hf
    match zs, hlen2 with
    | [z0, z1], _ =>
      have k0 : DataW.trod enc Tryd.prog W base sp held m 9 [c0] = some z0 := by simpa [hI] using hk 0 _ rfl
      have k1 : DataW.trod enc Tryd.prog W base sp held m 23 [c1] = some z1 := by simpa [hI, hS] using hk 1 _ rfl
      obtain ⟨s, f0, _, w0⟩ := DataW.trod_string Tryd.underlying9 k0
      obtain ⟨ao, len, cap, L, f1, hA⟩ := open_strs_cells k1
      simp at f0 f1
      subst f0 f1
      have := hA.hlen
      subst this
      exact ⟨⟨s, ao, L, cap⟩, rfl, hA, w0⟩
set_option maxRecDepth 100000 in
theorem open_entry {v : Value} {d : DataW H} {p : List MemPlace} (hv : Value.okWide Tryd.prog W r b0 31 v) (h : DataW.Trod enc Tryd.prog W base sp held 31 v d p) : ∃ e : Ent, v = e.v ∧ EntWf W e := by
  obtain ⟨cs, rfl, hsz⟩ := okWide_struct Tryd.underlying31 hv
  obtain ⟨l⟩ := cs
  have hC : Tryd.prog.cellsOf 31 = 2 := by kernel_rfl
  obtain ⟨fuel, hf⟩ := h
  obtain ⟨s, e, hw⟩ := open_entry_cells (hsz.trans hC) hf
  exact ⟨s, by show Value.agg ⟨l⟩ = _; rw [show l = s.cells from e]; rfl, hw⟩
set_option maxRecDepth 100000 in
theorem open_entries {v : Value} {d : DataW H} {p : List MemPlace} (hv : Value.okWide Tryd.prog W r b0 22 v) (h : DataW.Trod enc Tryd.prog W base sp held 22 v d p) :
    ∃ ao len cap L, v = .slice ao len cap ∧ EntsArg W ao len cap L := by
  obtain ⟨a, len, cap, rfl⟩ := okWide_slice Tryd.underlying22 hv
  have hC : Tryd.prog.cellsOf 31 = 2 := by kernel_rfl
  obtain ⟨fuel, hf⟩ := h
  rcases open_slice Tryd.underlying22 hf with ⟨hcs, _⟩ | ⟨x, l, c, m, n, D, Pl, hcs, _, hl, hm, hmm, _, hel⟩
  · simp [Value.cells] at hcs
    obtain ⟨rfl, rfl, rfl⟩ := hcs
    exact ⟨none, 0, 0, [], rfl, ⟨rfl, (fun _ => ⟨⟨by simp [entsCells], by simp [entsCells]⟩, by simp, by simp⟩), (by simp), Nat.le_refl _, (by unfold maxLen; omega), (fun _ => rfl)⟩⟩
  · simp [Value.cells] at hcs
    obtain ⟨rfl, rfl, rfl⟩ := hcs
    have hlm : len ≤ m := by rw [hmm]; split <;> omega
    have hE : ∀ i, i < len → ∃ s : Ent, EntWf W s ∧ ∀ j, j < 2 → W.cell? ((x.add (i * 2)).add j) = s.cells[j]? := by
      intro i hi
      obtain ⟨cs', h1, h2⟩ := hel i (by omega)
      rw [hC] at h1
      obtain ⟨_, hl5, hcell⟩ := World.cells?_some h1
      obtain ⟨s, e, hw⟩ := open_entry_cells hl5 h2
      exact ⟨s, hw, fun j hj => by rw [hcell j hj, e]⟩
    obtain ⟨f, hf⟩ : ∃ f : Nat → Ent, ∀ i, i < len → EntWf W (f i) ∧ ∀ j, j < 2 → W.cell? ((x.add (i * 2)).add j) = (f i).cells[j]? :=
      ⟨fun i => if h : i < len then (hE i h).choose else ⟨ByteArray.empty, none, [], 0⟩, fun i hi => by simp only [dif_pos hi]; exact (hE i hi).choose_spec⟩
    have hwf : ∀ s ∈ (List.range len).map f, EntWf W s := by
      intro s hs
      obtain ⟨i, hi, rfl⟩ := List.mem_map.1 hs
      exact (hf i (List.mem_range.1 hi)).1
    refine ⟨some x, len, cap, (List.range len).map f, rfl, by simp, fun hle => ⟨?_, fun e he => (hwf e he).cs.slv, fun e he => ⟨(hwf e he).cs.hcap, (hwf e he).cs.hmax⟩⟩, hwf, hl, hm, fun h => by cases h⟩
    obtain ⟨b, off, spot⟩ := x
    refine ⟨by rw [entsCells_len]; simp; unfold maxLen; omega, fun q v hq => ?_⟩
    have hql : q < 2 * len := by
      have := (List.getElem?_eq_some_iff.1 hq).1
      rw [entsCells_len] at this
      simpa using this
    obtain ⟨i, j, hij, hj⟩ : ∃ i j, q = i * 2 + j ∧ j < 2 := ⟨q / 2, q % 2, by omega, by omega⟩
    have hi : i < len := by omega
    rw [hij, entsCells_get _ i (f i) (by simp [hi]) j hj] at hq
    have h0 := (hf i hi).2 j hj
    rw [hq, add_add, ← hij] at h0
    have hs : spot = none := by
      have hc0 := (hf 0 (by omega)).2 0 (by omega)
      rw [add_add] at hc0
      have e0 : (⟨b, off, spot⟩ : Addr).add (0 * 2 + 0) = ⟨b, off, spot⟩ := rfl
      rw [e0] at hc0
      exact World.cell?_spot (w := W) (by rw [hc0]; rfl)
    subst hs
    rw [addr_add] at h0
    exact ⟨b, off, rfl, World.block_lt_of_cell? W _ h0, h0⟩
end
end Go.Proofs.YtgkgpfennlkcnaaDoor
