/- RetractAnyOrder: the plain law -/
import Derived.Test.YtgkgpfennlkcnaaDoorRetMore2
namespace Go.Proofs.YtgkgpfennlkcnaaDoor
open Go.RowKit

/-! ### validity, by membership -/
def VP (P : List En) : Prop := P.length ≤ 1000 ∧ (P.map En.id).Nodup ∧ ∀ e ∈ P, idB e.id.data.toList = true ∧ e.cs.length ≤ 20 ∧ e.cs.Nodup ∧ ∀ c ∈ e.cs, c ∈ P.map En.id
theorem nodup_take {α : Type} {l : List α} : l.Nodup ↔ ∀ i x, l[i]? = some x → x ∉ l.take i := by
  rw [List.nodup_iff_pairwise_ne, List.pairwise_iff_getElem]
  constructor
  · intro h i x hx hm
    obtain ⟨hi, rfl⟩ := List.getElem?_eq_some_iff.1 hx
    obtain ⟨j, hj⟩ := List.mem_iff_getElem?.1 hm
    rw [List.getElem?_take] at hj
    split at hj
    · rename_i hji
      obtain ⟨hj1, hj2⟩ := List.getElem?_eq_some_iff.1 hj
      exact h j i hj1 hi hji hj2
    · cases hj
  · intro h i j hi hj hij q
    refine h j l[j] (List.getElem?_eq_getElem hj) ?_
    rw [← q]
    refine List.mem_of_getElem? (i := i) ?_
    rw [List.getElem?_take, if_pos hij, List.getElem?_eq_getElem hi]
theorem nodup_rev {α : Type} {l : List α} (h : l.Nodup) : l.reverse.Nodup := by
  rw [List.nodup_iff_pairwise_ne] at h ⊢
  rw [List.pairwise_reverse]
  exact h.imp fun q e => q e.symm
theorem ps_ids (L : List Ent) : (ps L).map En.id = ids L := by unfold ps ids; rw [List.map_map]; rfl
theorem valid_vp {L : List Ent} : ValidL L ↔ VP (ps L) := by
  unfold ValidL VP
  rw [ps_ids, show (ps L).length = L.length by simp [ps]]
  constructor
  · rintro ⟨h1, h2, h3⟩
    refine ⟨h1, nodup_take.2 fun i x hx => ?_, fun e he => ?_⟩
    · have hi : i < L.length := by rw [← ids_len]; exact (List.getElem?_eq_some_iff.1 hx).1
      obtain ⟨e, he⟩ : ∃ e, L[i]? = some e := ⟨_, List.getElem?_eq_getElem hi⟩
      have := (h2 i e hi he).1
      rw [ids_get he] at hx
      rwa [Option.some.inj hx] at this
    · obtain ⟨i, hi⟩ := List.mem_iff_getElem?.1 he
      obtain ⟨e', he', rfl⟩ := ps_get.1 hi
      have hil := (List.getElem?_eq_some_iff.1 he').1
      have a := h2 i e' hil he'
      have b := h3 i e' hil he'
      refine ⟨a.2.1, a.2.2, nodup_take.2 fun j x hx => (b j x (List.getElem?_eq_some_iff.1 hx).1 hx).2, fun c hc => ?_⟩
      obtain ⟨j, hj⟩ := List.mem_iff_getElem?.1 hc
      exact (b j c (List.getElem?_eq_some_iff.1 hj).1 hj).1
  · rintro ⟨h1, h2, h3⟩
    refine ⟨h1, fun i e hi he => ?_, fun i e hi he j c hj hc => ?_⟩
    · have := h3 e.p (List.mem_map.2 ⟨e, List.mem_of_getElem? he, rfl⟩)
      exact ⟨nodup_take.1 h2 i e.id (ids_get he), this.1, this.2.1⟩
    · have := h3 e.p (List.mem_map.2 ⟨e, List.mem_of_getElem? he, rfl⟩)
      exact ⟨this.2.2.2 c (List.mem_of_getElem? hc), nodup_take.1 this.2.2.1 j c hc⟩
/-! ### the opposite order -/
def rvE (e : En) : En := ⟨e.id, e.cs.reverse⟩
def revE (P : List En) : List En := (P.map rvE).reverse
theorem rv_rv (e : En) : rvE (rvE e) = e := by unfold rvE; simp
theorem rev_rev (P : List En) : revE (revE P) = P := by
  unfold revE
  rw [List.map_reverse, List.reverse_reverse, List.map_map]
  conv => rhs; rw [← List.map_id P]
  exact List.map_congr_left fun e _ => rv_rv e
theorem rev_mem {P : List En} {e : En} (h : e ∈ P) : rvE e ∈ revE P := by
  unfold revE
  rw [List.mem_reverse]
  exact List.mem_map.2 ⟨e, h, rfl⟩
theorem rev_ids (P : List En) : (revE P).map En.id = (P.map En.id).reverse := by
  unfold revE
  rw [List.map_reverse, List.map_map]
  rfl
theorem vp_rev1 {P : List En} (h : VP P) : VP (revE P) := by
  obtain ⟨h1, h2, h3⟩ := h
  refine ⟨by unfold revE; simpa using h1, by rw [rev_ids]; exact nodup_rev h2, fun e he => ?_⟩
  unfold revE at he
  rw [List.mem_reverse] at he
  obtain ⟨d, hd, rfl⟩ := List.mem_map.1 he
  obtain ⟨a, b, c, k⟩ := h3 d hd
  refine ⟨a, by unfold rvE; simpa using b, by unfold rvE; exact nodup_rev c, fun x hx => ?_⟩
  rw [rev_ids, List.mem_reverse]
  exact k x (by unfold rvE at hx; simpa using hx)
theorem vp_rev {P : List En} : VP (revE P) ↔ VP P := ⟨fun h => by have := vp_rev1 h; rwa [rev_rev] at this, vp_rev1⟩
theorem sup_rev1 {P : List En} {R : List ByteArray} {c : ByteArray} (h : Sup P R c) : Sup (revE P) R c := by
  induction h with
  | root e he hr hc => exact .root (rvE e) (rev_mem he) hr (by unfold rvE; rw [hc]; rfl)
  | eff e he hr c hc _ ih => exact .eff (rvE e) (rev_mem he) hr c (by unfold rvE; simpa using hc) ih
theorem sup_rev {P : List En} {R : List ByteArray} {c : ByteArray} : Sup (revE P) R c ↔ Sup P R c := ⟨fun h => by have := sup_rev1 h; rwa [rev_rev] at this, sup_rev1⟩
theorem ch_rev1 {P : List En} {x : List ByteArray} {c : ByteArray} (h : Ch P x c) : Ch (revE P) x c := by
  induction h with
  | one e he hc => exact .one (rvE e) (rev_mem he) (by unfold rvE; rw [hc]; rfl)
  | more e he x c hc _ ih => exact .more (rvE e) (rev_mem he) x c (by unfold rvE; simpa using hc) ih
theorem ch_rev {P : List En} {x : List ByteArray} {c : ByteArray} : Ch (revE P) x c ↔ Ch P x c := ⟨fun h => by have := ch_rev1 h; rwa [rev_rev] at this, ch_rev1⟩
theorem valid_back {L B : List Ent} (h : ps B = revE (ps L)) : validB B = validB L := by
  rw [Bool.eq_iff_iff, validB_iff, validB_iff, valid_vp, valid_vp, h]
  exact vp_rev
theorem bec_back {L B : List Ent} (h : ps B = revE (ps L)) {id : ByteArray} {x : List ByteArray} {er : Int} (k : BecIs B id x er) : BecIs L id x er := by
  unfold BecIs at k ⊢
  rw [valid_back h, h] at k
  rcases k with k | ⟨k1, k2, k3⟩ | ⟨k1, k2, k3, k4⟩
  · exact .inl k
  · exact .inr (.inl ⟨k1, k2, ch_rev.1 k3.1, fun y hy => k3.2 y (ch_rev.2 hy)⟩)
  · exact .inr (.inr ⟨k1, k2, k3, fun y hy => k4 y (ch_rev.2 hy)⟩)
theorem back_len {L B : List Ent} (h : ps B = revE (ps L)) : B.length = L.length := by
  have := congrArg List.length h
  simpa [ps, revE] using this
theorem supL_ps (L : List Ent) (R : List ByteArray) : supL L R = (ids L).map (fun c => supB L R c) := by
  unfold supL ids; rw [List.map_map]; rfl
theorem supL_back {L B : List Ent} (h : ps B = revE (ps L)) (R : List ByteArray) : supL B R = (supL L R).reverse := by
  have h1 : ids B = (ids L).reverse := by rw [← ps_ids, ← ps_ids, h, rev_ids]
  rw [supL_ps, supL_ps, h1, List.map_reverse]
  congr 1
  refine List.map_congr_left fun c _ => ?_
  rw [Bool.eq_iff_iff, supB_iff, supB_iff, h]
  exact sup_rev
/-- the first entries behind the last ones -/
theorem rev_step {P : List En} {k : Nat} {e : En} (h : P[P.length - (k + 1)]? = some e) (hk : k < P.length) : (revE P).take (k + 1) = (revE P).take k ++ [rvE e] := by
  rw [List.take_add_one]
  congr 1
  unfold revE
  rw [List.getElem?_reverse (by simp; omega), List.getElem?_map, List.length_map, show P.length - 1 - k = P.length - (k + 1) by omega, h]
  rfl
theorem few_cs {L : List Ent} (h : fewE L = true) {e : Ent} (he : e ∈ L) : e.cs.length ≤ 24 := by
  unfold fewE at h
  simp only [Bool.and_eq_true, decide_eq_true_eq, List.all_eq_true] at h
  have := h.2 e he
  unfold fewEnt at this
  simp only [Bool.and_eq_true, decide_eq_true_eq] at this
  omega
end Go.Proofs.YtgkgpfennlkcnaaDoor
