/- RetractSupports: the plain law -/
import Derived.Test.YtgkgpfennlkcnaaDoorRetAny2
namespace Go.Proofs.YtgkgpfennlkcnaaDoor
open Go.RowKit

/-! ### an entry is supported exactly if .. -/
theorem sup_iff {P : List En} (hd : Dist P) {R : List ByteArray} {e : En} (he : e ∈ P) : Sup P R e.id ↔ e.id ∉ R ∧ (e.cs = [] ∨ ∃ c ∈ e.cs, Sup P R c) := by
  constructor
  · intro h
    generalize hi : e.id = s at h
    cases h with
    | root d h1 hr hc =>
      have := hd.eq he h1 hi
      subst this
      exact ⟨hr, .inl hc⟩
    | eff d h1 hr c hc hs =>
      have := hd.eq he h1 hi
      subst this
      exact ⟨hr, .inr ⟨c, hc, hs⟩⟩
  · rintro ⟨h1, h2 | ⟨c, h2, h3⟩⟩
    · exact .root e he h1 h2
    · exact .eff e he h1 c h2 h3
/-! ### the entries that are left -/
def leftE (R : List ByteArray) (e : En) : En :=
  ⟨e.id, if (e.cs.filter (fun c => !decide (c ∈ R))).isEmpty && !e.cs.isEmpty then [e.id] else e.cs.filter (fun c => !decide (c ∈ R))⟩
def restE (R : List ByteArray) (P : List En) : List En := (P.filter (fun e => !decide (e.id ∈ R))).map (leftE R)
theorem rest_mem {R : List ByteArray} {P : List En} {d : En} : d ∈ restE R P ↔ ∃ e ∈ P, e.id ∉ R ∧ leftE R e = d := by
  unfold restE
  simp only [List.mem_map, List.mem_filter, Bool.not_eq_true', decide_eq_false_iff_not]
  exact ⟨fun ⟨e, ⟨h1, h2⟩, h3⟩ => ⟨e, h1, h2, h3⟩, fun ⟨e, h1, h2, h3⟩ => ⟨e, ⟨h1, h2⟩, h3⟩⟩
theorem left_mem {R : List ByteArray} {e : En} {c : ByteArray} (h : c ∈ (leftE R e).cs) : (c ∈ e.cs ∧ c ∉ R) ∨ (c = e.id ∧ (leftE R e).cs = [e.id]) := by
  unfold leftE at h ⊢
  simp only at h ⊢
  split
  · rename_i h1
    rw [if_pos h1] at h
    exact .inr ⟨List.mem_singleton.1 h, rfl⟩
  · rename_i h1
    rw [if_neg h1] at h
    rw [List.mem_filter] at h
    exact .inl ⟨h.1, by simpa using h.2⟩
theorem left_nil {R : List ByteArray} {e : En} : (leftE R e).cs = [] ↔ e.cs = [] := by
  unfold leftE
  simp only
  constructor
  · intro h
    split at h
    · cases h
    · rename_i h1
      rw [h] at h1
      simpa using h1
  · intro h
    rw [h]
    simp
theorem left_keep {R : List ByteArray} {e : En} {c : ByteArray} (h1 : c ∈ e.cs) (h2 : c ∉ R) : c ∈ (leftE R e).cs := by
  have hm : c ∈ e.cs.filter (fun c => !decide (c ∈ R)) := List.mem_filter.2 ⟨h1, by simpa using h2⟩
  unfold leftE
  simp only
  rw [if_neg]
  · exact hm
  · intro q
    rw [Bool.and_eq_true, List.isEmpty_iff] at q
    rw [q.1] at hm
    cases hm
theorem rest_valid {P : List En} {R : List ByteArray} (h : VP P) : VP (restE R P) := by
  obtain ⟨h1, h2, h3⟩ := h
  have hids : (restE R P).map En.id = (P.map En.id).filter (fun c => !decide (c ∈ R)) := by
    unfold restE
    rw [List.map_map, List.filter_map]
    rfl
  refine ⟨?_, by rw [hids]; exact h2.filter _, fun d hd => ?_⟩
  · unfold restE
    rw [List.length_map]
    exact Nat.le_trans (List.length_filter_le _ _) h1
  · obtain ⟨e, he, hr, rfl⟩ := rest_mem.1 hd
    obtain ⟨a, b, c, k⟩ := h3 e he
    have hlen : (leftE R e).cs.length ≤ 20 := by
      unfold leftE
      simp only
      split
      · simp
      · exact Nat.le_trans (List.length_filter_le _ _) b
    refine ⟨a, hlen, ?_, fun x hx => ?_⟩
    · unfold leftE
      simp only
      split
      · simp
      · exact c.filter _
    · rw [hids, List.mem_filter]
      rcases left_mem hx with ⟨q1, q2⟩ | ⟨q1, _⟩
      · exact ⟨k x q1, by simpa using q2⟩
      · rw [q1]
        exact ⟨List.mem_map.2 ⟨e, he, rfl⟩, by simpa using hr⟩
/-- supported: there is a chain in what is left -/
theorem sup_chain {P : List En} {R : List ByteArray} {c : ByteArray} (h : Sup P R c) : c ∉ R ∧ ∃ x, Ch (restE R P) x c := by
  induction h with
  | root e he hr hc => exact ⟨hr, _, .one (leftE R e) (rest_mem.2 ⟨e, he, hr, rfl⟩) (left_nil.2 hc)⟩
  | eff e he hr c hc _ ih =>
    obtain ⟨h1, x, h2⟩ := ih
    exact ⟨hr, _, .more (leftE R e) (rest_mem.2 ⟨e, he, hr, rfl⟩) x c (left_keep hc h1) h2⟩
theorem chain_sup {P : List En} {R : List ByteArray} {c : ByteArray} {x : List ByteArray} (h : Ch (restE R P) x c) : Sup P R c := by
  induction h with
  | one d hd hc =>
    obtain ⟨e, he, hr, rfl⟩ := rest_mem.1 hd
    exact .root e he hr (left_nil.1 hc)
  | more d hd x c hc hx ih =>
    obtain ⟨e, he, hr, rfl⟩ := rest_mem.1 hd
    rcases left_mem hc with ⟨q1, _⟩ | ⟨q1, _⟩
    · exact .eff e he hr c q1 ih
    · rw [q1] at ih
      exact ih
/-! ### a chain, link by link -/
def linkAt (P : List En) (x : List ByteArray) (i : Nat) : Prop := ∃ e ∈ P, x[i]? = some e.id ∧ ((i = 0 ∧ e.cs = []) ∨ (0 < i ∧ ∃ c, x[i - 1]? = some c ∧ c ∈ e.cs))
theorem ch_links {P : List En} {x : List ByteArray} {s : ByteArray} (h : Ch P x s) : x.getLast? = some s ∧ ∀ i, i < x.length → linkAt P x i := by
  induction h with
  | one e he hc =>
    refine ⟨rfl, fun i hi => ?_⟩
    have : i = 0 := by simpa using hi
    subst this
    exact ⟨e, he, rfl, .inl ⟨rfl, hc⟩⟩
  | more e he x c hc hx ih =>
    obtain ⟨h1, h2⟩ := ih
    have hp := hx.pos
    refine ⟨by simp, fun i hi => ?_⟩
    by_cases hil : i < x.length
    · obtain ⟨d, hd, h3, h4⟩ := h2 i hil
      refine ⟨d, hd, by rw [List.getElem?_append_left hil]; exact h3, ?_⟩
      rcases h4 with h4 | ⟨h4, c', h5, h6⟩
      · exact .inl h4
      · exact .inr ⟨h4, c', by rw [List.getElem?_append_left (by omega)]; exact h5, h6⟩
    · have hie : i = x.length := by simp at hi; omega
      subst hie
      refine ⟨e, he, by rw [List.getElem?_append_right (Nat.le_refl _)]; simp, .inr ⟨hp, c, ?_, hc⟩⟩
      rw [List.getElem?_append_left (by omega), ← h1, List.getLast?_eq_getElem?]
end Go.Proofs.YtgkgpfennlkcnaaDoor
