/- retract: Because, plain: one round of the program is a round of chains -/
import Derived.Test.YtgkgpfennlkcnaaDoorRetCmp
namespace Go.Proofs.YtgkgpfennlkcnaaDoor

def idAt (L : List Ent) (i : Nat) : ByteArray := (ids L).getD i ByteArray.empty
theorem idAt_is {L : List Ent} {i : Nat} {e : Ent} (h : L[i]? = some e) : idAt L i = e.id := by unfold idAt; rw [List.getD, ids_get h]; rfl
theorem ps_get {L : List Ent} {i : Nat} {d : En} : (ps L)[i]? = some d ↔ ∃ e, L[i]? = some e ∧ d = e.p := by
  unfold ps
  rw [List.getElem?_map, Option.map_eq_some_iff]
  exact ⟨fun ⟨e, h1, h2⟩ => ⟨e, h1, h2.symm⟩, fun ⟨e, h1, h2⟩ => ⟨e, h1, h2.symm⟩⟩
theorem ps_dist {L : List Ent} (hv : Front L L.length) : Dist (ps L) := by
  intro i j e d hi hj hid
  obtain ⟨e', he, rfl⟩ := ps_get.1 hi
  obtain ⟨d', hd, rfl⟩ := ps_get.1 hj
  exact hv.dist (ids_get he) (by rw [ids_get hd]; exact congrArg some hid.symm)
/-- the best of the candidates that have been seen -/
def Best (L : List Ent) (f : Nat → List ByteArray) (D : Nat → Nat → Prop) (g : Nat → List ByteArray) : Prop :=
  ∀ t, t < L.length → (f t ≠ [] ∧ g t = []) ∨ (f t = [] ∧ ((g t = [] ∧ ∀ j, ¬ D j t) ∨ (g t ≠ [] ∧ ∃ j, D j t ∧ g t = f j ++ [idAt L t] ∧ ∀ j', D j' t → ¬ cmpCh (f j' ++ [idAt L t]) (g t) < 0)))
def addD (D : Nat → Nat → Prop) (j t : Nat) : Nat → Nat → Prop := fun a b => D a b ∨ (a = j ∧ b = t)
def upd (g : Nat → List ByteArray) (t : Nat) (x : List ByteArray) : Nat → List ByteArray := fun u => if u = t then x else g u
theorem Best.skip {L : List Ent} {f g : Nat → List ByteArray} {D : Nat → Nat → Prop} (h : Best L f D g) {j t : Nat} (hf : f t ≠ []) : Best L f (addD D j t) g := by
  intro u hu
  rcases h u hu with h1 | ⟨h1, h2⟩
  · exact .inl h1
  · have hut : u ≠ t := by rintro rfl; exact hf h1
    refine .inr ⟨h1, ?_⟩
    rcases h2 with ⟨h2, h3⟩ | ⟨h2, a, h3, h4, h5⟩
    · exact .inl ⟨h2, fun b hb => hb.elim (h3 b) (fun q => hut q.2)⟩
    · exact .inr ⟨h2, a, .inl h3, h4, fun b hb => hb.elim (h5 b) (fun q => absurd q.2 hut)⟩
theorem Best.first {L : List Ent} {f g : Nat → List ByteArray} {D : Nat → Nat → Prop} (h : Best L f D g) {j t : Nat} (ht : t < L.length) (hf : f t = []) (hg : g t = []) : Best L f (addD D j t) (upd g t (f j ++ [idAt L t])) := by
  intro u hu
  unfold upd
  by_cases hut : u = t
  · subst hut
    rw [if_pos rfl]
    refine .inr ⟨hf, .inr ⟨by simp, j, .inr ⟨rfl, rfl⟩, rfl, fun b hb => ?_⟩⟩
    rcases h u ht with h1 | ⟨_, ⟨_, h3⟩ | ⟨h2, _⟩⟩
    · exact absurd hf h1.1
    · rcases hb with hb | ⟨rfl, _⟩
      · exact absurd hb (h3 b)
      · have := (ch_good.zero (f b ++ [idAt L u]) (f b ++ [idAt L u])).2 rfl
        omega
    · exact absurd hg h2
  · rw [if_neg hut]
    rcases h u hu with h1 | ⟨h1, h2⟩
    · exact .inl h1
    · refine .inr ⟨h1, ?_⟩
      rcases h2 with ⟨h2, h3⟩ | ⟨h2, a, h3, h4, h5⟩
      · exact .inl ⟨h2, fun b hb => hb.elim (h3 b) (fun q => hut q.2)⟩
      · exact .inr ⟨h2, a, .inl h3, h4, fun b hb => hb.elim (h5 b) (fun q => absurd q.2 hut)⟩
theorem Best.less {L : List Ent} {f g : Nat → List ByteArray} {D : Nat → Nat → Prop} (h : Best L f D g) {j t : Nat} (ht : t < L.length) (hf : f t = []) (hg : g t ≠ []) (hl : cmpCh (f j ++ [idAt L t]) (g t) < 0) : Best L f (addD D j t) (upd g t (f j ++ [idAt L t])) := by
  intro u hu
  unfold upd
  by_cases hut : u = t
  · subst hut
    rw [if_pos rfl]
    refine .inr ⟨hf, .inr ⟨by simp, j, .inr ⟨rfl, rfl⟩, rfl, fun b hb => ?_⟩⟩
    rcases h u ht with h1 | ⟨_, ⟨h2, _⟩ | ⟨_, a, h3, h4, h5⟩⟩
    · exact absurd hf h1.1
    · exact absurd h2 hg
    · rcases hb with hb | ⟨rfl, _⟩
      · intro q
        exact h5 b hb (ch_good.trans _ _ _ q hl)
      · have := (ch_good.zero (f b ++ [idAt L u]) (f b ++ [idAt L u])).2 rfl
        omega
  · rw [if_neg hut]
    rcases h u hu with h1 | ⟨h1, h2⟩
    · exact .inl h1
    · refine .inr ⟨h1, ?_⟩
      rcases h2 with ⟨h2, h3⟩ | ⟨h2, a, h3, h4, h5⟩
      · exact .inl ⟨h2, fun b hb => hb.elim (h3 b) (fun q => hut q.2)⟩
      · exact .inr ⟨h2, a, .inl h3, h4, fun b hb => hb.elim (h5 b) (fun q => absurd q.2 hut)⟩
theorem Best.keep {L : List Ent} {f g : Nat → List ByteArray} {D : Nat → Nat → Prop} (h : Best L f D g) {j t : Nat} (hf : f t = []) (hg : g t ≠ []) (hl : ¬ cmpCh (f j ++ [idAt L t]) (g t) < 0) : Best L f (addD D j t) g := by
  intro u hu
  rcases h u hu with h1 | ⟨h1, h2⟩
  · exact .inl h1
  · refine .inr ⟨h1, ?_⟩
    rcases h2 with ⟨h2, h3⟩ | ⟨h2, a, h3, h4, h5⟩
    · refine .inl ⟨h2, fun b hb => hb.elim (h3 b) (fun q => ?_)⟩
      rw [q.2] at h2
      exact hg h2
    · refine .inr ⟨h2, a, .inl h3, h4, fun b hb => hb.elim (h5 b) (fun q => ?_)⟩
      obtain ⟨rfl, rfl⟩ := q
      exact hl
theorem Best.congr {L : List Ent} {f g : Nat → List ByteArray} {D D' : Nat → Nat → Prop} (h : Best L f D g) (hd : ∀ j t, D j t ↔ D' j t) : Best L f D' g := by
  have : D = D' := by funext a b; exact propext (hd a b)
  rw [← this]; exact h
theorem Best.start (L : List Ent) (f : Nat → List ByteArray) : Best L f (fun _ _ => False) (fun _ => []) := by
  intro t _
  by_cases h : f t = []
  · exact .inr ⟨h, .inl ⟨rfl, fun _ q => q⟩⟩
  · exact .inl ⟨h, rfl⟩
/-- what the loop over the levels knows -/
structure Lev (L : List Ent) (f : Nat → List ByteArray) (lv : List Nat) : Prop where
  known : ∃ r, Known (ps L) r f
  new : ∀ j ∈ lv, j < L.length ∧ f j ≠ []
  old : ∀ j, j < L.length → f j ≠ [] → j ∉ lv → ∀ t ∈ eff L L.length (idAt L j), f t ≠ []
def nextF (f g : Nat → List ByteArray) : Nat → List ByteArray := fun t => if f t = [] then g t else f t
/-- all the pairs of a level -/
def Pairs (L : List Ent) (lv : List Nat) : Nat → Nat → Prop := fun j t => j ∈ lv ∧ t ∈ eff L L.length (idAt L j)
theorem Lev.next {L : List Ent} (hv : Front L L.length) {f g : Nat → List ByteArray} {lv lv' : List Nat} (h : Lev L f lv) (hb : Best L f (Pairs L lv) g) (hl : ∀ t, t ∈ lv' ↔ t < L.length ∧ g t ≠ []) : Lev L (nextF f g) lv' := by
  obtain ⟨r, hk⟩ := h.known
  refine ⟨⟨r + 1, hk.next (ps_dist hv) ?_⟩, fun j hj => ?_, fun j hjl hj hn t ht => ?_⟩
  · intro i d hd
    obtain ⟨e, he, rfl⟩ := ps_get.1 hd
    have hil : i < L.length := (List.getElem?_eq_some_iff.1 he).1
    by_cases h0 : f i = []
    · refine .inr ⟨h0, ?_⟩
      have hn : nextF f g i = g i := by unfold nextF; rw [if_pos h0]
      rw [hn]
      rcases hb i hil with h1 | ⟨_, ⟨h2, h3⟩ | ⟨h2, j, h3, h4, h5⟩⟩
      · exact absurd h0 h1.1
      · refine .inl ⟨h2, fun j d hj hc => ?_⟩
        obtain ⟨e', he', rfl⟩ := ps_get.1 hj
        have hjl : j < L.length := (List.getElem?_eq_some_iff.1 he').1
        have hte : i ∈ eff L L.length (idAt L j) := mem_eff hil he (by rw [idAt_is he']; exact hc)
        by_cases hq : f j = []
        · exact hq
        · exfalso
          by_cases hjl' : j ∈ lv
          · exact h3 j ⟨hjl', hte⟩
          · exact h.old j hjl hq hjl' i hte h0
      · obtain ⟨hjl, hjt⟩ := h3
        obtain ⟨_, e2, he2, hc2⟩ := eff_lt hjt
        rw [he] at he2
        cases he2
        obtain ⟨hjn, hfj⟩ := h.new j hjl
        obtain ⟨e', he'⟩ : ∃ e', L[j]? = some e' := ⟨_, List.getElem?_eq_getElem hjn⟩
        rw [idAt_is he'] at hc2
        have hid : idAt L i = e.id := idAt_is he
        refine .inr ⟨j, e'.p, ps_get.2 ⟨e', he', rfl⟩, hc2, hfj, by rw [h4, hid]; rfl, fun j' d' hj' hc' hf' => ?_⟩
        obtain ⟨e3, he3, rfl⟩ := ps_get.1 hj'
        have hjl3 : j' < L.length := (List.getElem?_eq_some_iff.1 he3).1
        have hte : i ∈ eff L L.length (idAt L j') := mem_eff hil he (by rw [idAt_is he3]; exact hc')
        by_cases hjl' : j' ∈ lv
        · have := h5 j' ⟨hjl', hte⟩
          rw [hid] at this
          exact this
        · exact absurd h0 (h.old j' hjl3 hf' hjl' i hte)
    · exact .inl ⟨h0, by unfold nextF; rw [if_neg h0]⟩
  · obtain ⟨h1, h2⟩ := (hl j).1 hj
    refine ⟨h1, ?_⟩
    unfold nextF
    split
    · exact h2
    · assumption
  · unfold nextF at hj ⊢
    have hg : g j = [] := by
      by_cases q : g j = []
      · exact q
      · exact absurd ((hl j).2 ⟨hjl, q⟩) hn
    have hfj : f j ≠ [] := by
      intro q
      rw [if_pos q] at hj
      exact hj hg
    have htl := (eff_lt ht).1
    by_cases hjl' : j ∈ lv
    · by_cases hft : f t = []
      · rw [if_pos hft]
        rcases hb t htl with h1 | ⟨_, ⟨_, h3⟩ | ⟨h2, _⟩⟩
        · exact absurd hft h1.1
        · exact absurd ⟨hjl', ht⟩ (h3 j)
        · exact h2
      · rw [if_neg hft]; exact hft
    · have := h.old j hjl hfj hjl' t ht
      rw [if_neg this]; exact this
theorem Lev.start {L : List Ent} (hv : Front L L.length) {f : Nat → List ByteArray} {lv : List Nat} (hf : ∀ (i : Nat) (e : Ent), L[i]? = some e → f i = if e.cs = [] then [e.id] else []) (hl : ∀ t, t ∈ lv ↔ t < L.length ∧ f t ≠ []) : Lev L f lv := by
  refine ⟨⟨0, Known.zero (ps_dist hv) (fun i d hd => ?_)⟩, fun j hj => (hl j).1 hj, fun j hj h1 h2 => absurd ((hl j).2 ⟨hj, h1⟩) h2⟩
  obtain ⟨e, he, rfl⟩ := ps_get.1 hd
  exact hf i e he
/-- what Because says -/
def BecIs (L : List Ent) (id : ByteArray) (x : List ByteArray) (er : Int) : Prop :=
  (validB L = false ∧ x = [] ∧ er = 1) ∨ (validB L = true ∧ er = 0 ∧ Least (ps L) x id) ∨ (validB L = true ∧ x = [] ∧ er = 10 ∧ ∀ y, ¬ Ch (ps L) y id)
theorem BecIs.uniq {L : List Ent} {id : ByteArray} {x y : List ByteArray} {e f : Int} (h : BecIs L id x e) (k : BecIs L id y f) : x = y ∧ e = f := by
  rcases h with ⟨h1, h2, h3⟩ | ⟨h1, h2, h3⟩ | ⟨h1, h2, h3, h4⟩ <;> rcases k with ⟨k1, k2, k3⟩ | ⟨k1, k2, k3⟩ | ⟨k1, k2, k3, k4⟩
  · exact ⟨h2.trans k2.symm, h3.trans k3.symm⟩
  · rw [h1] at k1; cases k1
  · rw [h1] at k1; cases k1
  · rw [h1] at k1; cases k1
  · exact ⟨h3.uniq k3, h2.trans k2.symm⟩
  · exact absurd h3.1 (k4 x)
  · rw [h1] at k1; cases k1
  · exact absurd k3.1 (h4 y)
  · exact ⟨h2.trans k2.symm, h3.trans k3.symm⟩
theorem Lev.yes {L : List Ent} (hv : validB L = true) {f : Nat → List ByteArray} {lv : List Nat} (h : Lev L f lv) {i : Nat} {e : Ent} (he : L[i]? = some e) (h0 : f i ≠ []) : BecIs L e.id (f i) 0 := by
  obtain ⟨r, hk⟩ := h.known
  exact .inr (.inl ⟨hv, rfl, hk.some (ps_get.2 ⟨e, he, rfl⟩) h0⟩)
theorem Lev.no {L : List Ent} (hv : validB L = true) (hF : Front L L.length) {f : Nat → List ByteArray} (h : Lev L f []) {i : Nat} {e : Ent} (he : L[i]? = some e) (h0 : f i = []) : BecIs L e.id [] 10 := by
  obtain ⟨r, hk⟩ := h.known
  refine .inr (.inr ⟨hv, rfl, rfl, fun y => hk.none (ps_dist hF) ?_ (ps_get.2 ⟨e, he, rfl⟩) h0 y⟩)
  intro j d hd
  obtain ⟨e', he', rfl⟩ := ps_get.1 hd
  by_cases q : f j = []
  · refine .inr ⟨q, .inl ⟨q, fun m d hm hc => ?_⟩⟩
    obtain ⟨e2, he2, rfl⟩ := ps_get.1 hm
    by_cases q2 : f m = []
    · exact q2
    · exact absurd q (h.old m (List.getElem?_eq_some_iff.1 he2).1 q2 (by simp) j (mem_eff (List.getElem?_eq_some_iff.1 he').1 he' (by rw [idAt_is he2]; exact hc)))
  · exact .inl ⟨q, rfl⟩
theorem bec_none {L : List Ent} (hv : validB L = true) {id : ByteArray} (h : id ∉ ids L) : BecIs L id [] 10 := by
  refine .inr (.inr ⟨hv, rfl, rfl, fun y hy => ?_⟩)
  obtain ⟨d, hd, rfl⟩ := hy.mem
  obtain ⟨e, he, rfl⟩ := List.mem_map.1 hd
  exact h (List.mem_map.2 ⟨e, he, rfl⟩)
/-- how many entries are still unknown -/
def unk (f : Nat → List ByteArray) (n : Nat) : Nat := ((List.range n).filter (fun i => decide (f i = []))).length
theorem unk_le {f g : Nat → List ByteArray} (n : Nat) : unk (nextF f g) n ≤ unk f n := by
  unfold unk
  induction n with
  | zero => simp
  | succ n ih =>
    rw [List.range_succ, List.filter_append, List.filter_append, List.length_append, List.length_append]
    have : ([n].filter (fun i => decide (nextF f g i = []))).length ≤ ([n].filter (fun i => decide (f i = []))).length := by
      by_cases h : f n = []
      · simp [h]; exact List.length_filter_le _ _
      · have : nextF f g n ≠ [] := by unfold nextF; rw [if_neg h]; exact h
        simp [h, this]
    omega
theorem unk_lt {f g : Nat → List ByteArray} {n t : Nat} (ht : t < n) (hf : f t = []) (hg : g t ≠ []) : unk (nextF f g) n < unk f n := by
  induction n with
  | zero => omega
  | succ n ih =>
    have e : ∀ f : Nat → List ByteArray, unk f (n + 1) = unk f n + ([n].filter (fun i => decide (f i = []))).length := by
      intro f
      unfold unk
      rw [List.range_succ, List.filter_append, List.length_append]
    rw [e, e]
    by_cases h : t = n
    · subst h
      have := unk_le (f := f) (g := g) t
      have h2 : nextF f g t ≠ [] := by unfold nextF; rw [if_pos hf]; exact hg
      simp [hf, h2]; omega
    · have := ih (by omega)
      have : ([n].filter (fun i => decide (nextF f g i = []))).length ≤ ([n].filter (fun i => decide (f i = []))).length := by
        by_cases h : f n = []
        · simp [h]; exact List.length_filter_le _ _
        · have : nextF f g n ≠ [] := by unfold nextF; rw [if_neg h]; exact h
          simp [h, this]
      omega
end Go.Proofs.YtgkgpfennlkcnaaDoor
