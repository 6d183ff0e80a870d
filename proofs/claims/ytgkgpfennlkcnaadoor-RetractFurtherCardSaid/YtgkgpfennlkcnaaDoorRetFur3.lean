/- RetractFurther: its entries, however many -/
import Derived.Test.YtgkgpfennlkcnaaDoorRetFur2
import Derived.SizedLaws
namespace Go.Proofs.YtgkgpfennlkcnaaDoor
open Go.RowKit Go.ChangeShapes Go.WideShapes Go.Deep Go.Joins

/-- entries, as a law gets them: however many, with the reach that their datum has -/
structure EntsBig (w : World) (ao : Option Addr) (len cap : Nat) (L : List Ent) : Prop where
  hlen : L.length = len
  ents : Ents w ao L
  reach : len * 40 ≤ 140737488351232
  hnil : ao = none → cap = 0
section
variable {H : Type} {enc : TypeId × Value → H} {W : World} {base b0 : Nat} {sp : Nat → Bool} {held : Bool} {r : Reach}
structure EntsOpen (w : World) (d : DataW H) (ao : Option Addr) (len cap : Nat) (L : List Ent) : Prop where
  hlen : L.length = len
  ents : 2 * len ≤ maxLen → Ents w ao L
  shape : len = 0 ∨ ∃ es sp : List (DataW H), d = .slice es sp ∧ es.length = len
  hnil : ao = none → cap = 0
set_option maxRecDepth 100000 in
theorem open_entries_big {v : Value} {d : DataW H} {p : List MemPlace} (hv : Value.okWide Tryd.prog W r b0 22 v) (h : DataW.Trod enc Tryd.prog W base sp held 22 v d p) :
    ∃ ao len cap L, v = .slice ao len cap ∧ EntsOpen W d ao len cap L := by
  obtain ⟨a, len, cap, rfl⟩ := okWide_slice Tryd.underlying22 hv
  have hC : Tryd.prog.cellsOf 31 = 2 := by kernel_rfl
  obtain ⟨fuel, hf⟩ := h
  rcases open_slice Tryd.underlying22 hf with ⟨hcs, _⟩ | ⟨x, l, c, m, n, D, Pl, hcs, _, hl, hm, hmm, hd, hel⟩
  · simp [Value.cells] at hcs
    obtain ⟨rfl, rfl, rfl⟩ := hcs
    exact ⟨none, 0, 0, [], rfl, ⟨rfl, (fun _ => ⟨⟨by simp [entsCells], by simp [entsCells]⟩, by simp, by simp⟩), .inl rfl, (fun _ => rfl)⟩⟩
  · simp [Value.cells] at hcs
    obtain ⟨rfl, rfl, rfl⟩ := hcs
    have hlm : len ≤ m := by rw [hmm]; split <;> omega
    have hE : ∀ i, i < len → ∃ s : Ent, EntWf W s ∧ ∀ j, j < 2 → W.cell? ((x.add (i * 2)).add j) = s.cells[j]? := by
      intro i hi
      obtain ⟨cs', h1, h2⟩ := hel i (by omega)
      rw [hC] at h1
      obtain ⟨_, hl5, hcell⟩ := World.cells?_some h1
      obtain ⟨s, e, hw⟩ := open_entry_cells hl5 h2
      exact ⟨s, hw, fun j hj => by rw [hcell j hj, e]⟩
    obtain ⟨f, hf⟩ : ∃ f : Nat → Ent, ∀ i, i < len → EntWf W (f i) ∧ ∀ j, j < 2 → W.cell? ((x.add (i * 2)).add j) = (f i).cells[j]? :=
      ⟨fun i => if h : i < len then (hE i h).choose else ⟨ByteArray.empty, none, [], 0⟩, fun i hi => by simp only [dif_pos hi]; exact (hE i hi).choose_spec⟩
    have hwf : ∀ s ∈ (List.range len).map f, EntWf W s := by
      intro s hs
      obtain ⟨i, hi, rfl⟩ := List.mem_map.1 hs
      exact (hf i (List.mem_range.1 hi)).1
    refine ⟨some x, len, cap, (List.range len).map f, rfl, by simp, fun hle => ⟨?_, fun e he => (hwf e he).cs.slv, fun e he => ⟨(hwf e he).cs.hcap, (hwf e he).cs.hmax⟩⟩, .inr ⟨_, _, (Prod.mk.inj hd).1, by simp⟩, fun h => by cases h⟩
    obtain ⟨b, off, spot⟩ := x
    refine ⟨by rw [entsCells_len]; simp; omega, fun q v hq => ?_⟩
    have hql : q < 2 * len := by
      have := (List.getElem?_eq_some_iff.1 hq).1
      rw [entsCells_len] at this
      simpa using this
    obtain ⟨i, j, hij, hj⟩ : ∃ i j, q = i * 2 + j ∧ j < 2 := ⟨q / 2, q % 2, by omega, by omega⟩
    have hi : i < len := by omega
    rw [hij, entsCells_get _ i (f i) (by simp [hi]) j hj] at hq
    have h0 := (hf i hi).2 j hj
    rw [hq, add_add, ← hij] at h0
    have hs : spot = none := by
      have hc0 := (hf 0 (by omega)).2 0 (by omega)
      rw [add_add] at hc0
      have e0 : (⟨b, off, spot⟩ : Addr).add (0 * 2 + 0) = ⟨b, off, spot⟩ := rfl
      rw [e0] at hc0
      exact World.cell?_spot (w := W) (by rw [hc0]; rfl)
    subst hs
    rw [addr_add] at h0
    exact ⟨b, off, rfl, World.block_lt_of_cell? W _ h0, h0⟩
set_option maxRecDepth 100000 in
theorem EntsOpen.sized {d : DataW H} {ao : Option Addr} {len cap : Nat} {L : List Ent} (h : EntsOpen W d ao len cap L) {ts : List TypeId} {ds : List (DataW H)} (hsz : (DataW.weightsEach Tryd.prog ts ds).all (· ≤ reachBytes) = true) {j : Nat} (ht : ts[j]? = some 22) (hd : ds[j]? = some d) : EntsBig W ao len cap L := by
  have hr : len * 40 ≤ 140737488351232 := by
    rcases h.shape with h0 | ⟨es, sp, rfl, hl⟩
    · omega
    · have := sized_slice hsz ht hd Tryd.underlying22
      have hb : Tryd.prog.bytesOf 31 = 40 := by kernel_rfl
      rw [hb, hl] at this
      have hrb : reachBytes = 140737488351232 := rfl
      rw [hrb] at this
      omega
  exact ⟨h.hlen, h.ents (by unfold maxLen; omega), hr, h.hnil⟩
end
theorem fur_law (a0 : Option Addr) (len0 cap0 : Nat) (z0 : List Ent) (a1 : Ent) (a2 : Option Addr) (len2 cap2 : Nat) (z2 : List ByteArray) (W : World) (w0 : EntsBig W a0 len0 cap0 z0) (w1 : EntWf W a1) (w2 : StrsArg W a2 len2 cap2 z2) :
    Calls Tryd.prog 7 #[.slice a0 len0 cap0, a1.v, .slice a2 len2 cap2] W fun e w' => e = .returned (.bool true) ∧ Below W.heap.size W w' := by
  have h0 := w0.hlen
  have h2 := w2.hlen
  have hr := w0.reach
  subst h0 h2
  exact fur_walk a0 a2 cap0 cap2 z0 a1 z2 W w0.ents (by omega) w1 w2.slv w0.hnil
end Go.Proofs.YtgkgpfennlkcnaaDoor
