/- RetractMore -/
import Derived.Test.YtgkgpfennlkcnaaDoorRetOpen
import Derived.Test.YtgkgpfennlkcnaaDoorLib2
namespace Go.Proofs.YtgkgpfennlkcnaaDoor
open Go.RowKit

/-! ### the plain law -/
theorem Sup.less {P : List En} {R R' : List ByteArray} (h : ∀ x, x ∈ R → x ∈ R') {c : ByteArray} (hs : Sup P R' c) : Sup P R c := by
  induction hs with
  | root e he hr hc => exact .root e he (fun q => hr (h _ q)) hc
  | eff e he hr c hc _ ih => exact .eff e he (fun q => hr (h _ q)) c hc ih
theorem supL_congr {L : List Ent} {R R' : List ByteArray} (h : ∀ x, x ∈ R ↔ x ∈ R') : supL L R = supL L R' := by
  unfold supL
  refine List.map_congr_left fun e _ => ?_
  rw [Bool.eq_iff_iff, supB_iff, supB_iff]
  exact ⟨Sup.less fun x q => (h x).2 q, Sup.less fun x q => (h x).1 q⟩
theorem mem_taint {L : List Ent} {R : List ByteArray} {c : ByteArray} : c ∈ taintL L R ↔ ∃ e ∈ L, e.id = c ∧ c ∉ R ∧ ¬ Sup (ps L) R c := by
  unfold taintL taintB
  simp only [List.mem_map, List.mem_filter, Bool.and_eq_true, Bool.not_eq_true', decide_eq_false_iff_not]
  constructor
  · rintro ⟨e, ⟨h1, h2, h3⟩, rfl⟩
    exact ⟨e, h1, rfl, h2, fun q => by rw [supB_iff.2 q] at h3; cases h3⟩
  · rintro ⟨e, h1, rfl, h2, h3⟩
    refine ⟨e, ⟨h1, h2, ?_⟩, rfl⟩
    rw [Bool.eq_false_iff]
    exact fun q => h3 (supB_iff.1 q)
theorem Sup.taint {L : List Ent} {R : List ByteArray} {c : ByteArray} (h : Sup (ps L) R c) : Sup (ps L) (R ++ taintL L R) c := by
  induction h with
  | root e he hr hc =>
    refine .root e he ?_ hc
    rw [List.mem_append]
    rintro (q | q)
    · exact hr q
    · obtain ⟨_, _, _, _, q2⟩ := mem_taint.1 q
      exact q2 (.root e he hr hc)
  | eff e he hr c hc hs ih =>
    refine .eff e he ?_ c hc ih
    rw [List.mem_append]
    rintro (q | q)
    · exact hr q
    · obtain ⟨_, _, _, _, q2⟩ := mem_taint.1 q
      exact q2 (.eff e he hr c hc hs)
theorem sup_taint {L : List Ent} {R : List ByteArray} : supL L (R ++ taintL L R) = supL L R := by
  unfold supL
  refine List.map_congr_left fun e _ => ?_
  rw [Bool.eq_iff_iff, supB_iff, supB_iff]
  exact ⟨Sup.less fun x q => List.mem_append_left _ q, Sup.taint⟩
theorem taint_taint {L : List Ent} {R : List ByteArray} : taintL L (R ++ taintL L R) = [] := by
  rw [List.eq_nil_iff_forall_not_mem]
  intro c hc
  obtain ⟨e, he, h1, h2, h3⟩ := mem_taint.1 hc
  rw [List.mem_append, not_or] at h2
  apply h3
  apply Sup.taint
  apply Classical.byContradiction
  intro q
  exact h2.2 (mem_taint.2 ⟨e, he, h1, h2.1, q⟩)
theorem taintL_le {L : List Ent} {R : List ByteArray} : (taintL L R).length ≤ L.length := by
  unfold taintL
  rw [List.length_map]
  exact List.length_filter_le _ _
theorem sub_at {L : List Ent} {R R' : List ByteArray} {i : Nat} (h : (supL L (R ++ R'))[i]? = some true) : (supL L R)[i]? = some true := by
  have hi : i < L.length := by rw [← supL_len L (R ++ R')]; exact (List.getElem?_eq_some_iff.1 h).1
  obtain ⟨e, he⟩ : ∃ e, L[i]? = some e := ⟨_, List.getElem?_eq_getElem hi⟩
  rw [supL_get he] at h ⊢
  have h1 := supB_iff.1 (Option.some.inj h)
  rw [supB_iff.2 (Sup.less (fun x q => List.mem_append_left _ q) h1)]
/-! ### the contracts, as the laws take them -/
theorem few_small {L : List Ent} (h : fewE L = true) : Small L ∧ L.length ≤ 12 := by
  unfold fewE at h
  simp only [Bool.and_eq_true, decide_eq_true_eq, List.all_eq_true] at h
  refine ⟨⟨by omega, fun e he => ?_⟩, h.1⟩
  have := h.2 e he
  unfold fewEnt at this
  simp only [Bool.and_eq_true, decide_eq_true_eq] at this
  omega
theorem few_cut {L : List Ent} {R : List ByteArray} (h : fewR L R = true) : fewE L = true := by
  unfold fewR at h
  rw [Bool.and_eq_true] at h
  exact h.1
theorem supp_ok {L : List Ent} (hv : validB L = true) (hS : Small L) {ao ro : Option Addr} {cap rc n : Nat} {R : List ByteArray} {w : World} (hn : R.length = n) (hE : Ents w ao L) (hR : SlV w ro (strsV R)) (hl : n ≤ 1000) :
    Calls Tryd.prog 10 #[.slice ao L.length cap, .slice ro n rc] w fun e w' => ∃ bo cb, e = .returned (.tuple #[.slice bo L.length cb, .int .i64 0]) ∧ SlV w' bo (bools (supL L R)) ∧ Below w.heap.size w w' := by
  subst hn
  have := supp_any ao ro cap rc L R w hE hS hR (by omega)
  have hj : judB L R = true := by unfold judB; rw [hv, decide_eq_true hl]; rfl
  unfold supR at this
  rw [if_pos hj] at this
  exact this.mono fun e w' ⟨bo, cb, h1, h2, h3⟩ => ⟨bo, cb, by rw [h1, supL_len], h2, h3⟩
theorem supp_bad {L : List Ent} (hv : validB L = false) (hS : Small L) {ao ro : Option Addr} {cap rc n : Nat} {R : List ByteArray} {w : World} (hn : R.length = n) (hE : Ents w ao L) (hR : SlV w ro (strsV R)) (hl : n ≤ 1000) :
    Calls Tryd.prog 10 #[.slice ao L.length cap, .slice ro n rc] w fun e w' => ∃ bo cb, e = .returned (.tuple #[.slice bo 0 cb, .int .i64 1]) ∧ Below w.heap.size w w' := by
  subst hn
  have := supp_any ao ro cap rc L R w hE hS hR (by omega)
  have hj : ¬ judB L R = true := by unfold judB; rw [hv]; simp
  unfold supR at this
  rw [if_neg hj] at this
  exact this.mono fun e w' ⟨bo, cb, h1, h2, h3⟩ => ⟨bo, cb, h1, h3⟩
theorem taint_ok {L : List Ent} (hv : validB L = true) (hS : Small L) {ao ro : Option Addr} {cap rc n : Nat} {R : List ByteArray} {w : World} (hn : R.length = n) (hE : Ents w ao L) (hR : SlV w ro (strsV R)) (hl : n ≤ 1000) :
    Calls Tryd.prog 14 #[.slice ao L.length cap, .slice ro n rc] w fun e w' => ∃ bo cb, e = .returned (.tuple #[.slice bo (taintL L R).length cb, .int .i64 0]) ∧ SlV w' bo (strsV (taintL L R)) ∧ Below w.heap.size w w' ∧ (bo = none → cb = 0) := by
  subst hn
  have := taint_any ao ro cap rc L R w hE hS hR (by omega)
  have hj : judB L R = true := by unfold judB; rw [hv, decide_eq_true hl]; rfl
  unfold taintR at this
  rw [if_pos hj] at this
  exact this.mono fun e w' ⟨bo, cb, h1, h2, h3, h4⟩ => ⟨bo, cb, h1, h2, h3, h4⟩
theorem taint_bad {L : List Ent} (hv : validB L = false) (hS : Small L) {ao ro : Option Addr} {cap rc n : Nat} {R : List ByteArray} {w : World} (hn : R.length = n) (hE : Ents w ao L) (hR : SlV w ro (strsV R)) (hl : n ≤ 1000) :
    Calls Tryd.prog 14 #[.slice ao L.length cap, .slice ro n rc] w fun e w' => ∃ bo cb, e = .returned (.tuple #[.slice bo 0 cb, .int .i64 1]) ∧ Below w.heap.size w w' := by
  subst hn
  have := taint_any ao ro cap rc L R w hE hS hR (by omega)
  have hj : ¬ judB L R = true := by unfold judB; rw [hv]; simp
  unfold taintR at this
  rw [if_neg hj] at this
  exact this.mono fun e w' ⟨bo, cb, h1, h2, h3, h4⟩ => ⟨bo, cb, h1, h3⟩
end Go.Proofs.YtgkgpfennlkcnaaDoor
