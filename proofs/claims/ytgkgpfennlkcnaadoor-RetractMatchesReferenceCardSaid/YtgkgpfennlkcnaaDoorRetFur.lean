/- RetractFurther: the plain law -/
import Derived.Test.YtgkgpfennlkcnaaDoorRetMore2
namespace Go.Proofs.YtgkgpfennlkcnaaDoor
open Go.RowKit

theorem ps_app (L : List Ent) (f : Ent) : ps (L ++ [f]) = ps L ++ [f.p] := by simp [ps]
theorem mem_ids {L : List Ent} {c : ByteArray} : c ∈ ids L ↔ ∃ e ∈ ps L, e.id = c := by
  unfold ids ps
  simp only [List.mem_map]
  exact ⟨fun ⟨e, h, q⟩ => ⟨e.p, ⟨e, h, rfl⟩, q⟩, fun ⟨_, ⟨e, h, rfl⟩, q⟩ => ⟨e, h, q⟩⟩
/-- of the entries with a further one, those that bear an elder Id are elder -/
theorem old_of {L : List Ent} {f : Ent} (hv : ValidL (L ++ [f])) {e : En} (he : e ∈ ps (L ++ [f])) (hi : e.id ∈ ids L) : e ∈ ps L := by
  obtain ⟨d, hd, h1⟩ := mem_ids.1 hi
  have hd' : d ∈ ps (L ++ [f]) := by rw [ps_app]; exact List.mem_append_left _ hd
  have := (ps_dist hv.2.1).eq he hd' h1.symm
  rw [this]; exact hd
theorem sup_more {P Q : List En} {R : List ByteArray} {c : ByteArray} (h : ∀ e, e ∈ P → e ∈ Q) (hs : Sup P R c) : Sup Q R c := by
  induction hs with
  | root e he hr hc => exact .root e (h e he) hr hc
  | eff e he hr c hc _ ih => exact .eff e (h e he) hr c hc ih
theorem ch_more {P Q : List En} {x : List ByteArray} {c : ByteArray} (h : ∀ e, e ∈ P → e ∈ Q) (hs : Ch P x c) : Ch Q x c := by
  induction hs with
  | one e he hc => exact .one e (h e he) hc
  | more e he x c hc _ ih => exact .more e (h e he) x c hc ih
theorem cause_in {L : List Ent} (hv : ValidL L) {e : En} (he : e ∈ ps L) {c : ByteArray} (hc : c ∈ e.cs) : c ∈ ids L := mem_ids.2 (right_in hv e he c hc)
theorem sup_old {L : List Ent} {f : Ent} {R : List ByteArray} (hv : ValidL L) (hw : ValidL (L ++ [f])) {c : ByteArray} (hs : Sup (ps (L ++ [f])) R c) : c ∈ ids L → Sup (ps L) R c := by
  induction hs with
  | root e he hr hc => exact fun hi => .root e (old_of hw he hi) hr hc
  | eff e he hr c hc _ ih => exact fun hi => .eff e (old_of hw he hi) hr c hc (ih (cause_in hv (old_of hw he hi) hc))
theorem ch_old {L : List Ent} {f : Ent} (hv : ValidL L) (hw : ValidL (L ++ [f])) {x : List ByteArray} {c : ByteArray} (hs : Ch (ps (L ++ [f])) x c) : c ∈ ids L → Ch (ps L) x c := by
  induction hs with
  | one e he hc => exact fun hi => .one e (old_of hw he hi) hc
  | more e he x c hc _ ih => exact fun hi => .more e (old_of hw he hi) x c hc (ih (cause_in hv (old_of hw he hi) hc))
theorem sub_app (L : List Ent) (f : Ent) : ∀ e, e ∈ ps L → e ∈ ps (L ++ [f]) := by
  intro e he; rw [ps_app]; exact List.mem_append_left _ he
theorem supL_further {L : List Ent} {f : Ent} (R : List ByteArray) (hv : ValidL L) (hw : ValidL (L ++ [f])) : (supL (L ++ [f]) R).take L.length = supL L R := by
  unfold supL
  rw [List.map_append, List.take_append_of_le_length (by simp), List.take_of_length_le (by simp)]
  refine List.map_congr_left fun e he => ?_
  rw [Bool.eq_iff_iff, supB_iff, supB_iff]
  have hi : e.id ∈ ids L := List.mem_map.2 ⟨e, he, rfl⟩
  exact ⟨fun q => sup_old hv hw q hi, fun q => sup_more (sub_app L f) q⟩
theorem bec_further {L : List Ent} {f : Ent} (hv : ValidL L) (hw : ValidL (L ++ [f])) {id : ByteArray} (hi : id ∈ ids L) {x : List ByteArray} {er : Int} (h : BecIs (L ++ [f]) id x er) : BecIs L id x er := by
  have b1 := validB_iff.2 hv
  have b2 := validB_iff.2 hw
  rcases h with ⟨h1, _⟩ | ⟨_, h2, h3⟩ | ⟨_, h2, h3, h4⟩
  · rw [h1] at b2; cases b2
  · exact .inr (.inl ⟨b1, h2, ch_old hv hw h3.1 hi, fun y hy => h3.2 y (ch_more (sub_app L f) hy)⟩)
  · exact .inr (.inr ⟨b1, h2, h3, fun y hy => h4 y (ch_more (sub_app L f) hy)⟩)
/-- entries with a further one, to be read -/
theorem Ents.app {w : World} {ao ao' : Option Addr} {L : List Ent} {f : Ent} (h : Ents w ao L) (hf : EntWf w f) (hr : SlV w ao' (entsCells L ++ f.cells)) : Ents w ao' (L ++ [f]) := by
  have e1 : entsCells (L ++ [f]) = entsCells L ++ f.cells := by simp [entsCells]
  refine ⟨by rw [e1]; exact hr, fun e he => ?_, fun e he => ?_⟩
  · rcases List.mem_append.1 he with q | q
    · exact h.cs e q
    · rw [List.mem_singleton.1 q]; exact hf.cs.slv
  · rcases List.mem_append.1 he with q | q
    · exact h.hcap e q
    · rw [List.mem_singleton.1 q]; exact ⟨hf.cs.hcap, hf.cs.hmax⟩
end Go.Proofs.YtgkgpfennlkcnaaDoor
