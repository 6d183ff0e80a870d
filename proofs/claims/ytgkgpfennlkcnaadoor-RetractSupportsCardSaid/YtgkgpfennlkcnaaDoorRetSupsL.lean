/- RetractSupports: the entries that are left, in memory -/
import Derived.Test.YtgkgpfennlkcnaaDoorRetSups3
import Derived.Test.YtgkgpfennlkcnaaDoorRetFur2
namespace Go.Proofs.YtgkgpfennlkcnaaDoor
open Go.RowKit

/-- the entries that are left, as far as they are made -/
structure LeftR (L : List Ent) (R : List ByteArray) (w : World) (A i k : Nat) (v : Value) (B : List Ent) : Prop where
  own : w.ownsRow A 31 2 v k (entsCells B)
  len : B.length = k
  is : ps B = restE R ((ps L).take i)
  cs : ∀ e ∈ B, SlV w e.ao (strsV e.cs) ∧ e.cs.length ≤ e.cap ∧ e.cap ≤ maxLen
  apart : ∀ e ∈ B, ∀ b off, e.ao = some ⟨b, off, none⟩ → b < w.heap.size ∧ v.ownBlock ≠ some b
theorem LeftR.start (L : List Ent) (R : List ByteArray) (w : World) (A : Nat) : LeftR L R w A 0 0 (.slice none 0 0) [] :=
  ⟨World.ownsRow_nil _ _ _ _, rfl, rfl, by simp, by simp⟩
theorem LeftR.skip {L : List Ent} {R : List ByteArray} {w w' : World} {A i k : Nat} {v : Value} {B : List Ent} {e : Ent} (h : LeftR L R w A i k v B) (hB : Below w.heap.size w w') (he : L[i]? = some e) (hr : e.id ∈ R) : LeftR L R w' A (i + 1) k v B := by
  refine ⟨ownsRow_chgN h.own ((Chg.refl (fun q => w.heap.size ≤ q) w).below hB (fun _ _ h => h)) (fun q hq h2 => by have := (h.own.lt q hq).2; omega), h.len, ?_, fun d hd => ?_, fun d hd b off q => ?_⟩
  · rw [rest_no (e := e.p) (ps_get.2 ⟨e, he, rfl⟩) hr]; exact h.is
  · exact ⟨(h.cs d hd).1.below hB, (h.cs d hd).2⟩
  · have := h.apart d hd b off q
    have := hB.size
    exact ⟨by omega, (h.apart d hd b off q).2⟩
theorem LeftR.step {L : List Ent} {R : List ByteArray} {wo wr w2 : World} {A k xb i g cap cl vc ecap : Nat} {u6 v : Value} {B : List Ent} {eid : ByteArray} {eao va : Option Addr} {ecs ds : List ByteArray} (hb : LeftR L R wo A i k u6 B) (hxb : wo.heap.size ≤ xb) (hBi : Below xb wo wr)
    (he : L[i]? = some ⟨eid, eao, ecs, ecap⟩) (hr : eid ∉ R) (hds : leftE R ⟨eid, ecs⟩ = ⟨eid, ds⟩) (hv : v = .slice va cl vc) (hcl : ds.length = cl) (hc1 : cl ≤ vc) (hc2 : vc ≤ maxLen) (hs : SlV wr va (strsV ds)) (hva : ∀ b off, va = some ⟨b, off, none⟩ → xb ≤ b ∧ b < wr.heap.size)
    (hg : wr.grownBy w2 u6.ownBlock) (hat : u6.ownBlock = some g ∨ wr.heap.size ≤ g) (hown : w2.ownsRow A 31 2 (.slice (some ⟨g, 0, none⟩) (k + 1) cap) (k + 1) (entsCells B ++ [.string eid, v])) :
    LeftR L R w2 A (i + 1) (k + 1) (.slice (some ⟨g, 0, none⟩) (k + 1) cap) (B ++ [⟨eid, va, ds, vc⟩]) := by
  have hsz := hBi.size
  have hgz := hg.size
  have hul : ∀ q, u6.ownBlock = some q → q < xb := fun q hq => by have := (hb.own.lt q hq).2; omega
  have hwx : Below wo.heap.size wo wr := hBi.mono hxb
  refine ⟨?_, by simp [hb.len], ?_, fun e h => ?_, fun e h b off q => ?_⟩
  · have e1 : entsCells (B ++ [⟨eid, va, ds, vc⟩]) = entsCells B ++ [.string eid, v] := by rw [hv]; simp [entsCells, Ent.cells, hcl]
    rw [e1]; exact hown
  · have := rest_yes (P := ps L) (R := R) (i := i) (e := ⟨eid, ecs⟩) (ps_get.2 ⟨_, he, rfl⟩) hr
    rw [this, ← hb.is, hds]
    simp [ps, Ent.p]
  · rcases List.mem_append.1 h with h | h
    · obtain ⟨h1, h2⟩ := hb.cs e h
      exact ⟨(h1.below hwx).grown hg (fun b off q => (hb.apart e h b off q).2), h2⟩
    · rw [List.mem_singleton.1 h]
      refine ⟨hs.grown hg (fun b off q hq => ?_), by show ds.length ≤ vc; rw [hcl]; exact hc1, hc2⟩
      have a := (hva b off q).1
      have b := hul _ hq
      omega
  · rcases List.mem_append.1 h with h | h
    · obtain ⟨h1, h2⟩ := hb.apart e h b off q
      have := hwx.size
      refine ⟨by omega, fun hq => ?_⟩
      obtain rfl : g = b := by simpa [Value.ownBlock] using hq
      rcases hat with hat | hat
      · exact h2 hat
      · omega
    · rw [List.mem_singleton.1 h] at q
      obtain ⟨h1, h2⟩ := hva b off q
      refine ⟨by omega, fun hq => ?_⟩
      obtain rfl : g = b := by simpa [Value.ownBlock] using hq
      rcases hat with hat | hat
      · have := hul _ hat; omega
      · omega
theorem rest_len (R : List ByteArray) (P : List En) : (restE R P).length ≤ P.length := by
  unfold restE
  rw [List.length_map]
  exact List.length_filter_le _ _
theorem small_left {L B : List Ent} {R : List ByteArray} (h : ps B = restE R (ps L)) (hs : Small L) : Small B := by
  have hl : B.length ≤ L.length := by
    have h1 : B.length = (restE R (ps L)).length := by rw [← h]; simp [ps]
    have h2 : (ps L).length = L.length := by simp [ps]
    rw [h1, ← h2]
    exact rest_len R (ps L)
  refine ⟨Nat.le_trans hl hs.1, fun e he => ?_⟩
  have hm : e.p ∈ restE R (ps L) := by rw [← h]; exact List.mem_map.2 ⟨e, he, rfl⟩
  obtain ⟨d, hd, _, hq⟩ := rest_mem.1 hm
  obtain ⟨x, hx, rfl⟩ := List.mem_map.1 hd
  have := hs.2 x hx
  have h1 : e.id = x.id := (congrArg En.id hq).symm
  have h2 : e.cs = (leftE R x.p).cs := (congrArg En.cs hq).symm
  rw [h1, h2]
  refine ⟨this.1, ?_⟩
  unfold leftE
  simp only
  split
  · simp
  · exact Nat.le_trans (List.length_filter_le _ _) this.2
/-- what Because answers of what is left -/
theorem left_ans {L B : List Ent} {R : List ByteArray} (hv : ValidL L) (h : ps B = restE R (ps L)) {c : ByteArray} {x : List ByteArray} {er : Int} (hb : BecIs B c x er) :
    (supB L R c = true ∧ er = 0 ∧ x.getLast? = some c ∧ ∀ i, i < x.length → linkAt (ps B) x i) ∨ (supB L R c = false ∧ er = 10) := by
  have hvB : validB B = true := validB_iff.2 (valid_vp.2 (by rw [h]; exact rest_valid (valid_vp.1 hv)))
  rcases hb with ⟨h1, _⟩ | ⟨_, h2, h3⟩ | ⟨_, _, h2, h3⟩
  · rw [hvB] at h1; cases h1
  · left
    have hc := h3.1
    have hl := ch_links hc
    rw [h] at hc
    exact ⟨supB_iff.2 (chain_sup hc), h2, hl.1, hl.2⟩
  · right
    refine ⟨?_, h2⟩
    rw [Bool.eq_false_iff]
    intro q
    obtain ⟨_, y, hy⟩ := sup_chain (supB_iff.1 q)
    rw [← h] at hy
    exact h3 y hy
theorem left_dist {L B : List Ent} {R : List ByteArray} (hv : ValidL L) (h : ps B = restE R (ps L)) : Dist (ps B) := by
  have hvB : ValidL B := valid_vp.2 (by rw [h]; exact rest_valid (valid_vp.1 hv))
  exact ps_dist hvB.2.1
theorem left_cs {L B : List Ent} {R : List ByteArray} (h : ps B = restE R (ps L)) (hs : ∀ e ∈ L, e.cs.length ≤ 24) : ∀ e ∈ B, e.cs.length ≤ 1000 := by
  intro e he
  have hm : e.p ∈ restE R (ps L) := by rw [← h]; exact List.mem_map.2 ⟨e, he, rfl⟩
  obtain ⟨d, hd, _, hq⟩ := rest_mem.1 hm
  obtain ⟨x, hx, rfl⟩ := List.mem_map.1 hd
  have := hs x hx
  have h2 : e.cs = (leftE R x.p).cs := (congrArg En.cs hq).symm
  rw [h2]
  unfold leftE
  simp only
  split
  · simp
  · exact Nat.le_trans (List.length_filter_le _ _) (Nat.le_trans this (by omega))
end Go.Proofs.YtgkgpfennlkcnaaDoor
