/- retract: supported entries, plain: what the program's rounds keep -/
import Derived.Test.YtgkgpfennlkcnaaDoorRetJud1
namespace Go.Proofs.YtgkgpfennlkcnaaDoor

def goneL (L : List Ent) (R : List ByteArray) : List Bool := L.map fun e => decide (e.id ∈ R)
theorem goneL_get {L : List Ent} {R : List ByteArray} {i : Nat} {e : Ent} (h : L[i]? = some e) : (goneL L R).getD i false = decide (e.id ∈ R) := by
  unfold goneL; rw [List.getD, List.getElem?_map, h]; rfl
theorem goneL_nil (L : List Ent) : goneL L [] = List.replicate L.length false := by
  unfold goneL; apply List.ext_getElem <;> simp
/-- a retracted Id that is no entry's -/
theorem goneL_no {L : List Ent} {R : List ByteArray} {c : ByteArray} (h : c ∉ ids L) : goneL L (R ++ [c]) = goneL L R := by
  unfold goneL
  apply List.map_congr_left
  intro e he
  have : e.id ≠ c := by rintro rfl; exact h (List.mem_map.2 ⟨e, he, rfl⟩)
  simp [this]
theorem goneL_yes {L : List Ent} {R : List ByteArray} {c : ByteArray} {i : Nat} (hv : Front L L.length) (h : (ids L)[i]? = some c) : goneL L (R ++ [c]) = (goneL L R).set i true := by
  unfold goneL
  apply List.ext_getElem?
  intro j
  rw [List.getElem?_set]
  by_cases hj : i = j
  · subst hj
    obtain ⟨e, he⟩ : ∃ e, L[i]? = some e := ⟨_, List.getElem?_eq_getElem (by rw [← ids_len]; exact (List.getElem?_eq_some_iff.1 h).1)⟩
    have : e.id = c := by rw [ids_get he] at h; exact Option.some.inj h
    rw [if_pos rfl, if_pos (by simp; exact (List.getElem?_eq_some_iff.1 he).1), List.getElem?_map, he]
    simp [this]
  · rw [if_neg hj, List.getElem?_map, List.getElem?_map]
    cases hL : L[j]? with
    | none => rfl
    | some e =>
      have : e.id ≠ c := by
        rintro rfl
        exact hj (hv.dist h (ids_get hL))
      simp [this]
def ps (L : List Ent) : List En := L.map Ent.p
theorem ps_mem {L : List Ent} {i : Nat} {e : Ent} (h : L[i]? = some e) : e.p ∈ ps L := List.mem_map.2 ⟨e, List.mem_of_getElem? h, rfl⟩
/-- entry i is supported, by what is known so far -/
abbrev at0 (l : List Bool) (i : Nat) : Bool := l.getD i false
structure Inv (L : List Ent) (R : List ByteArray) (sup : List Bool) (q : List Nat) (X : Option Nat) : Prop where
  len : sup.length = L.length
  que : ∀ i ∈ q, i < L.length ∧ at0 sup i = true
  sound : ∀ (i : Nat) (e : Ent), L[i]? = some e → at0 sup i = true → Sup (ps L) R e.id
  closed : ∀ (i : Nat) (e : Ent), L[i]? = some e → at0 sup i = true → i ∉ q → some i ≠ X → ∀ t ∈ eff L L.length e.id, at0 (goneL L R) t = true ∨ at0 sup t = true
theorem at0_set (l : List Bool) (i j : Nat) (h : i < l.length) : at0 (l.set i true) j = if i = j then true else at0 l j := by
  unfold at0
  rw [List.getD, List.getElem?_set]
  by_cases e : i = j
  · rw [if_pos e, if_pos h, if_pos e]; rfl
  · rw [if_neg e, if_neg e]; rfl
theorem Inv.start {L : List Ent} {R : List ByteArray} : Inv L R (List.replicate L.length false) [] none :=
  ⟨by simp, by simp, fun i e _ h => by simp [at0, List.getElem?_replicate] at h; split at h <;> simp at h, fun i e _ h => by simp [at0, List.getElem?_replicate] at h; split at h <;> simp at h⟩
theorem stepS_mono {gone sup : List Bool} {q : List Nat} {i j : Nat} (h : at0 sup j = true) : at0 (stepS gone sup q i).1 j = true := by
  unfold stepS
  split
  · exact h
  · by_cases hi : i < sup.length
    · show at0 (sup.set i true) j = true
      rw [at0_set _ _ _ hi]; split
      · rfl
      · exact h
    · show at0 (sup.set i true) j = true
      rw [List.set_eq_of_length_le (by omega)]; exact h
theorem stepS_done {gone sup : List Bool} {q : List Nat} {i : Nat} (hi : i < sup.length) : at0 gone i = true ∨ at0 (stepS gone sup q i).1 i = true := by
  unfold stepS
  by_cases h : (gone.getD i false || sup.getD i false) = true
  · rw [if_pos h]
    simpa using h
  · rw [if_neg h]
    right
    show at0 (sup.set i true) i = true
    rw [at0_set _ _ _ hi, if_pos rfl]
theorem Inv.step {L : List Ent} {R : List ByteArray} {sup : List Bool} {q : List Nat} {X : Option Nat} (h : Inv L R sup q X) {i : Nat} {e : Ent} (he : L[i]? = some e) (hs : e.id ∉ R → Sup (ps L) R e.id) :
    Inv L R (stepS (goneL L R) sup q i).1 (stepS (goneL L R) sup q i).2 X := by
  have hil : i < L.length := (List.getElem?_eq_some_iff.1 he).1
  unfold stepS
  by_cases hc : ((goneL L R).getD i false || sup.getD i false) = true
  · rw [if_pos hc]; exact h
  · rw [if_neg hc]
    simp only [Bool.or_eq_true, not_or, Bool.not_eq_true] at hc
    have hR : e.id ∉ R := by rw [goneL_get he] at hc; simpa using hc.1
    have hset := fun j => at0_set sup i j (by rw [h.len]; exact hil)
    refine ⟨by simpa using h.len, ?_, ?_, ?_⟩
    · intro j hj
      simp only [List.mem_append, List.mem_singleton] at hj
      simp only [hset]
      rcases hj with hj | rfl
      · exact ⟨(h.que j hj).1, by rw [(h.que j hj).2]; split <;> rfl⟩
      · exact ⟨hil, by rw [if_pos rfl]⟩
    · intro j d hd hj
      simp only [hset] at hj
      by_cases e1 : i = j
      · subst e1
        rw [he] at hd
        cases hd
        exact hs hR
      · rw [if_neg e1] at hj
        exact h.sound j d hd hj
    · intro j d hd hj hq hX t ht
      simp only [hset] at hj ⊢
      simp only [List.mem_append, List.mem_singleton, not_or] at hq
      have e1 : i ≠ j := fun q => hq.2 q.symm
      rw [if_neg e1] at hj
      rcases h.closed j d hd hj hq.1 hX t ht with r | r
      · exact .inl r
      · right; rw [r]; split <;> rfl
/-- the first of the queue is taken -/
theorem Inv.pop {L : List Ent} {R : List ByteArray} {sup : List Bool} {i : Nat} {q : List Nat} (h : Inv L R sup (i :: q) none) : Inv L R sup q (some i) :=
  ⟨h.len, fun j hj => h.que j (by simp [hj]), h.sound, fun j e he hj hq hX t ht => h.closed j e he hj (by simp only [List.mem_cons, not_or]; exact ⟨fun e => hX (by rw [e]), hq⟩) (by simp) t ht⟩
theorem Inv.done {L : List Ent} {R : List ByteArray} {sup : List Bool} {i : Nat} {q : List Nat} (h : Inv L R sup q (some i)) (hd : ∀ (e : Ent), L[i]? = some e → ∀ t ∈ eff L L.length e.id, at0 (goneL L R) t = true ∨ at0 sup t = true) : Inv L R sup q none :=
  ⟨h.len, h.que, h.sound, fun j e he hj hq _ t ht => by
    by_cases e1 : some j = some i
    · cases e1; exact hd e he t ht
    · exact h.closed j e he hj hq e1 t ht⟩
/-- the roots are supported -/
def Roots (L : List Ent) (R : List ByteArray) (sup : List Bool) (k : Nat) : Prop := ∀ (i : Nat) (e : Ent), i < k → L[i]? = some e → e.cs = [] → at0 (goneL L R) i = true ∨ at0 sup i = true
open Classical in
noncomputable def supB (L : List Ent) (R : List ByteArray) (c : ByteArray) : Bool := decide (Sup (ps L) R c)
noncomputable def supL (L : List Ent) (R : List ByteArray) : List Bool := L.map fun e => supB L R e.id
theorem Inv.final {L : List Ent} {R : List ByteArray} {sup : List Bool} (hv : Front L L.length) (h : Inv L R sup [] none) (hr : Roots L R sup L.length) : sup = supL L R := by
  have key : ∀ c, Sup (ps L) R c → ∀ (i : Nat) (e : Ent), L[i]? = some e → e.id = c → at0 sup i = true := by
    intro c hc
    induction hc with
    | root d hd hrr hcs =>
      intro i e he hid
      obtain ⟨e', he', rfl⟩ := List.mem_map.1 hd
      obtain ⟨j, hj⟩ := List.mem_iff_getElem?.1 he'
      have hij : i = j := hv.dist (ids_get he) (by rw [ids_get hj, hid]; rfl)
      subst hij
      rw [he] at hj
      cases hj
      rcases hr i e (List.getElem?_eq_some_iff.1 he).1 he hcs with r | r
      · unfold at0 at r
        rw [goneL_get he] at r
        exact absurd (of_decide_eq_true r) hrr
      · exact r
    | eff d hd hrr c' hc' hs ih =>
      intro i e he hid
      obtain ⟨e', he', rfl⟩ := List.mem_map.1 hd
      obtain ⟨j, hj⟩ := List.mem_iff_getElem?.1 he'
      have hij : i = j := hv.dist (ids_get he) (by rw [ids_get hj, hid]; rfl)
      subst hij
      rw [he] at hj
      cases hj
      obtain ⟨m, d, hm, hmd⟩ : ∃ (m : Nat) (d : Ent), L[m]? = some d ∧ d.id = c' := by
        cases hs with
        | root x hx _ _ =>
          obtain ⟨y, hy, rfl⟩ := List.mem_map.1 hx
          obtain ⟨m, hm⟩ := List.mem_iff_getElem?.1 hy
          exact ⟨m, y, hm, rfl⟩
        | eff x hx _ _ _ _ =>
          obtain ⟨y, hy, rfl⟩ := List.mem_map.1 hx
          obtain ⟨m, hm⟩ := List.mem_iff_getElem?.1 hy
          exact ⟨m, y, hm, rfl⟩
      have hsm := ih m d hm hmd
      rcases h.closed m d hm hsm (by simp) (by simp) i (mem_eff (List.getElem?_eq_some_iff.1 he).1 he (by rw [hmd]; exact hc')) with r | r
      · unfold at0 at r
        rw [goneL_get he] at r
        exact absurd (of_decide_eq_true r) hrr
      · exact r
  unfold supL
  apply List.ext_getElem?
  intro i
  rw [List.getElem?_map]
  cases hL : L[i]? with
  | none =>
    have := List.getElem?_eq_none_iff.1 hL
    rw [List.getElem?_eq_none (by rw [h.len]; omega)]; rfl
  | some e =>
    have hil : i < sup.length := by rw [h.len]; exact (List.getElem?_eq_some_iff.1 hL).1
    have ha : at0 sup i = sup[i] := by unfold at0; rw [List.getD, List.getElem?_eq_getElem hil]; rfl
    rw [List.getElem?_eq_getElem hil, ← ha]
    simp only [Option.map_some, Option.some.injEq]
    rw [Bool.eq_iff_iff]
    unfold supB
    simp only [decide_eq_true_eq]
    exact ⟨h.sound i e hL, fun hs => key _ hs i e hL rfl⟩
/-- how much is still to be done -/
def todo (sup : List Bool) (q : List Nat) : Nat := 2 * sup.count false + q.length
theorem count_set {l : List Bool} {i : Nat} (h : i < l.length) (h0 : at0 l i = false) : (l.set i true).count false + 1 = l.count false := by
  induction l generalizing i with
  | nil => simp at h
  | cons b l ih =>
    cases i with
    | zero =>
      have : b = false := by simpa [at0] using h0
      subst this; simp
    | succ i =>
      have := ih (i := i) (by simpa using h) (by simpa [at0] using h0)
      simp only [List.set_cons_succ, List.count_cons]
      omega
theorem todo_step {gone sup : List Bool} {q : List Nat} {i : Nat} (hi : i < sup.length) : todo (stepS gone sup q i).1 (stepS gone sup q i).2 ≤ todo sup q := by
  unfold stepS
  by_cases h : (gone.getD i false || sup.getD i false) = true
  · rw [if_pos h]; exact Nat.le_refl _
  · rw [if_neg h]
    simp only [Bool.or_eq_true, not_or, Bool.not_eq_true] at h
    have := count_set hi h.2
    unfold todo
    simp only [List.length_append, List.length_cons, List.length_nil]
    omega
theorem todo_pop (sup : List Bool) (i : Nat) (q : List Nat) : todo sup q + 1 = todo sup (i :: q) := by unfold todo; simp; omega
theorem todo_que (sup : List Bool) (q : List Nat) : q.length ≤ todo sup q := by unfold todo; omega
theorem todo_start (n : Nat) : todo (List.replicate n false) [] = 2 * n := by unfold todo; simp
end Go.Proofs.YtgkgpfennlkcnaaDoor
