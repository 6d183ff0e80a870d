/- retract: entries, to be read; the graph, plain and in memory -/
import Derived.Test.YtgkgpfennlkcnaaDoorRetBase
import Derived.Carry
namespace Go.Proofs.YtgkgpfennlkcnaaDoor
open Go.RowKit

/-- an entry, as it lies in memory -/
structure Ent where
  id : ByteArray
  ao : Option Addr
  cs : List ByteArray
  cap : Nat
def Ent.sl (e : Ent) : Value := .slice e.ao e.cs.length e.cap
def Ent.cells (e : Ent) : List Value := [.string e.id, .slice e.ao e.cs.length e.cap]
def Ent.v (e : Ent) : Value := .agg #[.string e.id, .slice e.ao e.cs.length e.cap]
def Ent.p (e : Ent) : En := ⟨e.id, e.cs⟩
def entsCells (L : List Ent) : List Value := L.flatMap Ent.cells
theorem entsCells_len (L : List Ent) : (entsCells L).length = 2 * L.length := by
  induction L with
  | nil => rfl
  | cons s L ih => simp only [entsCells, List.flatMap_cons, List.length_append, List.length_cons] at ih ⊢; rw [ih]; simp [Ent.cells]; omega
theorem entsCells_get (L : List Ent) (i : Nat) (s : Ent) (h : L[i]? = some s) (j : Nat) (hj : j < 2) : (entsCells L)[i * 2 + j]? = s.cells[j]? := by
  induction L generalizing i with
  | nil => simp at h
  | cons t L ih =>
    cases i with
    | zero =>
      have e : t = s := by simpa using h
      subst e
      show (t.cells ++ entsCells L)[0 * 2 + j]? = _
      rw [List.getElem?_append_left (by simp [Ent.cells]; omega)]
      simp
    | succ i =>
      have := ih i (by simpa using h)
      show (t.cells ++ entsCells L)[(i + 1) * 2 + j]? = _
      rw [List.getElem?_append_right (by simp [Ent.cells]; omega)]
      have e : (i + 1) * 2 + j - t.cells.length = i * 2 + j := by simp [Ent.cells]; omega
      rw [e, this]
/-- entries, to be read -/
structure Ents (w : World) (ao : Option Addr) (L : List Ent) : Prop where
  row : SlV w ao (entsCells L)
  cs : ∀ e ∈ L, SlV w e.ao (e.cs.map Value.string)
  hcap : ∀ e ∈ L, e.cs.length ≤ e.cap ∧ e.cap ≤ maxLen
theorem Ents.below {w w' : World} {ao : Option Addr} {L : List Ent} (h : Ents w ao L) (hB : Below w.heap.size w w') : Ents w' ao L := ⟨h.row.below hB, fun e he => (h.cs e he).below hB, h.hcap⟩
theorem Ents.at {w : World} {ao : Option Addr} {L : List Ent} (h : Ents w ao L) {i : Nat} {e : Ent} (hs : L[i]? = some e) :
    ∃ b off, ao = some ⟨b, off, none⟩ ∧ b < w.heap.size ∧ w.cell? ⟨b, off + i * 2, none⟩ = some (.string e.id) ∧ w.cell? ⟨b, off + i * 2 + 1, none⟩ = some (.slice e.ao e.cs.length e.cap) := by
  obtain ⟨b, off, q, hb, c0⟩ := h.row.cell _ _ (entsCells_get L i e hs 0 (by omega))
  obtain ⟨b1, off1, q1, _, c1⟩ := h.row.cell _ _ (entsCells_get L i e hs 1 (by omega))
  rw [q] at q1
  cases q1
  exact ⟨b, off, q, hb, c0, c1⟩
/-- entries, their Ids of up to a million bytes -/
def Small (L : List Ent) : Prop := L.length ≤ 100000 ∧ ∀ e ∈ L, e.id.size ≤ 1000000 ∧ e.cs.length ≤ 100000
theorem SlV.take {w : World} {ao : Option Addr} {l : List Value} (h : SlV w ao l) (k : Nat) : SlV w ao (l.take k) :=
  ⟨by have := h.len; rw [List.length_take]; omega, fun i x hi => by
    rw [List.getElem?_take] at hi
    split at hi
    · exact h.cell i x hi
    · cases hi⟩
def ids (L : List Ent) : List ByteArray := L.map Ent.id
theorem ids_len (L : List Ent) : (ids L).length = L.length := by simp [ids]
theorem ids_get {L : List Ent} {i : Nat} {e : Ent} (h : L[i]? = some e) : (ids L)[i]? = some e.id := by simp [ids, h]
/-- the first k entries have Ids of their own, and not too many causes -/
def Front (L : List Ent) (k : Nat) : Prop := ∀ i e, i < k → L[i]? = some e → e.id ∉ (ids L).take i ∧ idB e.id.data.toList = true ∧ e.cs.length ≤ 20
/-- a cause list, its first k -/
def Rt (L : List Ent) (cs : List ByteArray) (k : Nat) : Prop := ∀ j c, j < k → cs[j]? = some c → c ∈ ids L ∧ c ∉ cs.take j
/-- the first k entries have right causes -/
def Right (L : List Ent) (k : Nat) : Prop := ∀ i e, i < k → L[i]? = some e → Rt L e.cs e.cs.length
def ValidL (L : List Ent) : Prop := L.length ≤ 1000 ∧ Front L L.length ∧ Right L L.length
open Classical in
noncomputable def validB (L : List Ent) : Bool := decide (ValidL L)
theorem validB_iff {L : List Ent} : validB L = true ↔ ValidL L := by unfold validB; simp
theorem validB_no {L : List Ent} (h : ¬ ValidL L) : validB L = false := by rw [Bool.eq_false_iff]; exact fun q => h (validB_iff.1 q)
theorem Front.step {L : List Ent} {k : Nat} {e : Ent} (h : Front L k) (he : L[k]? = some e) (h1 : e.id ∉ (ids L).take k) (h2 : idB e.id.data.toList = true) (h3 : e.cs.length ≤ 20) : Front L (k + 1) := by
  intro i d hi hd
  by_cases q : i = k
  · subst q
    rw [he] at hd
    cases hd
    exact ⟨h1, h2, h3⟩
  · exact h i d (by omega) hd
theorem Rt.step {L : List Ent} {cs : List ByteArray} {k : Nat} {c : ByteArray} (h : Rt L cs k) (hc : cs[k]? = some c) (h1 : c ∈ ids L) (h2 : c ∉ cs.take k) : Rt L cs (k + 1) := by
  intro j d hj hd
  by_cases q : j = k
  · subst q
    rw [hc] at hd
    cases hd
    exact ⟨h1, h2⟩
  · exact h j d (by omega) hd
theorem Right.step {L : List Ent} {k : Nat} {e : Ent} (h : Right L k) (he : L[k]? = some e) (h1 : Rt L e.cs e.cs.length) : Right L (k + 1) := by
  intro i d hi hd
  by_cases q : i = k
  · subst q
    rw [he] at hd
    cases hd
    exact h1
  · exact h i d (by omega) hd
theorem Front.dist {L : List Ent} (h : Front L L.length) {i j : Nat} {c : ByteArray} (hi : (ids L)[i]? = some c) (hj : (ids L)[j]? = some c) : i = j := by
  have key : ∀ {i j : Nat}, (ids L)[i]? = some c → (ids L)[j]? = some c → i < j → False := by
    intro i j hi hj hlt
    have hjl : j < L.length := by rw [← ids_len]; exact (List.getElem?_eq_some_iff.1 hj).1
    obtain ⟨e, he⟩ : ∃ e, L[j]? = some e := ⟨_, List.getElem?_eq_getElem hjl⟩
    have h1 := (h j e hjl he).1
    have h2 : e.id = c := by rw [ids_get he] at hj; exact Option.some.inj hj
    rw [h2] at h1
    apply h1
    refine List.mem_of_getElem? (i := i) ?_
    rw [List.getElem?_take, if_pos hlt, hi]
  rcases Nat.lt_trichotomy i j with q | q | q
  · exact (key hi hj q).elim
  · exact q
  · exact (key hj hi q).elim

/-! ### the map of Ids -/
def zipM (l : List ByteArray) (n : Nat) : List (ByteArray × Value) := (l.zipIdx n).map fun p => (p.1, .int .i64 (p.2 : Nat))
/-- the first k of them -/
def atM (L : List Ent) (k : Nat) : List (ByteArray × Value) := zipM ((ids L).take k) 0
theorem zipM_cons (a : ByteArray) (l : List ByteArray) (n : Nat) : zipM (a :: l) n = (a, .int .i64 n) :: zipM l (n + 1) := by simp [zipM]
theorem zipM_app (l m : List ByteArray) (n : Nat) : zipM (l ++ m) n = zipM l n ++ zipM m (n + l.length) := by simp [zipM, List.zipIdx_append]
theorem lk_zip : ∀ (l : List ByteArray) (n : Nat) (c : ByteArray), (lkM (zipM l n) c = none ∧ c ∉ l) ∨ ∃ j, l[j]? = some c ∧ lkM (zipM l n) c = some (.int .i64 ((n + j : Nat) : Int))
  | [], n, c => .inl ⟨rfl, by simp⟩
  | a :: l, n, c => by
    rw [zipM_cons]
    unfold lkM
    rw [List.find?_cons]
    by_cases h : c = a
    · rw [decide_eq_true h]
      exact .inr ⟨0, by simp [h], by simp⟩
    · rw [decide_eq_false h]
      rcases lk_zip l (n + 1) c with ⟨h1, h2⟩ | ⟨j, h1, h2⟩
      · exact .inl ⟨h1, by simp [h, h2]⟩
      · refine .inr ⟨j + 1, by simpa using h1, ?_⟩
        unfold lkM at h2
        show Option.map _ _ = _
        rw [h2]
        congr 2; push_cast; omega
theorem lk_at (L : List Ent) (k : Nat) (c : ByteArray) : (lkM (atM L k) c = none ∧ c ∉ (ids L).take k) ∨ ∃ j, j < k ∧ (ids L)[j]? = some c ∧ lkM (atM L k) c = some (.int .i64 (j : Nat)) := by
  rcases lk_zip ((ids L).take k) 0 c with h | ⟨j, h1, h2⟩
  · exact .inl h
  · rw [List.getElem?_take] at h1
    split at h1
    · rename_i hlt
      exact .inr ⟨j, hlt, h1, by rw [Nat.zero_add] at h2; exact h2⟩
    · cases h1
theorem at_zero (L : List Ent) : atM L 0 = [] := by simp [atM, zipM]
theorem at_step {L : List Ent} {k : Nat} {e : Ent} (he : L[k]? = some e) (hn : e.id ∉ (ids L).take k) : upM (atM L k) e.id (.int .i64 (k : Nat)) = atM L (k + 1) := by
  have h0 : lkM (atM L k) e.id = none := by
    rcases lk_at L k e.id with h | ⟨j, h1, h2, _⟩
    · exact h.1
    · exact absurd (List.mem_of_getElem? (by rw [List.getElem?_take, if_pos h1]; exact h2)) hn
  rw [upM_new h0]
  unfold atM
  rw [List.take_add_one, ids_get he]
  simp only [Option.toList_some]
  rw [zipM_app, List.length_take, ids_len]
  have hk : k < L.length := (List.getElem?_eq_some_iff.1 he).1
  rw [Nat.min_eq_left (by omega), Nat.zero_add]
  rfl

/-! ### effects -/
def isCause (L : List Ent) (c : ByteArray) (t : Nat) : Bool := match L[t]? with
  | some e => decide (c ∈ e.cs)
  | none => false
/-- the entries that name this cause, of the first i -/
def eff (L : List Ent) (i : Nat) (c : ByteArray) : List Nat := (List.range i).filter (isCause L c)
/-- .. and of the next one's first k causes -/
def eff2 (L : List Ent) (i k : Nat) (c : ByteArray) : List Nat := eff L i c ++ (match L[i]? with | some e => if c ∈ e.cs.take k then [i] else [] | none => [])
theorem eff2_zero (L : List Ent) (i : Nat) (c : ByteArray) : eff2 L i 0 c = eff L i c := by
  unfold eff2; split <;> simp
theorem eff_step (L : List Ent) (i : Nat) (c : ByteArray) : eff L (i + 1) c = eff L i c ++ (if isCause L c i = true then [i] else []) := by
  unfold eff
  rw [List.range_succ, List.filter_append]
  by_cases h : isCause L c i = true <;> simp [h]
theorem eff2_end {L : List Ent} {i : Nat} {e : Ent} (he : L[i]? = some e) (c : ByteArray) : eff2 L i e.cs.length c = eff L (i + 1) c := by
  rw [eff_step]
  unfold eff2 isCause
  rw [he]
  simp
theorem eff2_step {L : List Ent} {i k : Nat} {e : Ent} {d : ByteArray} (he : L[i]? = some e) (hd : e.cs[k]? = some d) (hn : d ∉ e.cs.take k) (c : ByteArray) :
    eff2 L i (k + 1) c = if c = d then eff2 L i k c ++ [i] else eff2 L i k c := by
  unfold eff2
  rw [he]
  simp only
  rw [List.take_add_one, hd]
  by_cases h : c = d
  · subst h
    rw [if_pos rfl]
    simp [hn]
  · rw [if_neg h]
    simp [h]
theorem eff_lt {L : List Ent} {i t : Nat} {c : ByteArray} (h : t ∈ eff L i c) : t < i ∧ ∃ e, L[t]? = some e ∧ c ∈ e.cs := by
  unfold eff at h
  rw [List.mem_filter, List.mem_range] at h
  refine ⟨h.1, ?_⟩
  have h2 := h.2
  unfold isCause at h2
  split at h2
  · rename_i e he; exact ⟨e, he, of_decide_eq_true h2⟩
  · cases h2
theorem mem_eff {L : List Ent} {i t : Nat} {c : ByteArray} {e : Ent} (ht : t < i) (he : L[t]? = some e) (hc : c ∈ e.cs) : t ∈ eff L i c := by
  unfold eff
  rw [List.mem_filter, List.mem_range]
  refine ⟨ht, ?_⟩
  unfold isCause
  rw [he]; exact decide_eq_true hc
theorem eff_len (L : List Ent) (i : Nat) (c : ByteArray) : (eff L i c).length ≤ i := by
  unfold eff
  have := List.length_filter_le (isCause L c) (List.range i)
  rw [List.length_range] at this; exact this
theorem eff2_len (L : List Ent) (i k : Nat) (c : ByteArray) : (eff2 L i k c).length ≤ i + 1 := by
  unfold eff2
  have := eff_len L i c
  rw [List.length_append]
  split
  · split <;> simp <;> omega
  · simp; omega
def natsV (l : List Nat) : List Value := l.map fun i => Value.int .i64 (i : Nat)
/-- the rows of effects: each in a block of its own -/
structure Effs (w : World) (B F n : Nat) (rows : Nat → List Nat) (X : Nat) : Prop where
  hFB : F < B
  ex : ∃ vs : List Value, vs.length = n ∧ Blk w F 55 vs ∧ (∀ j v, vs[j]? = some v → w.ownsRow B 3 1 v (rows j).length (natsV (rows j))) ∧
    (∀ (i j : Nat) (vi vj : Value) (g : Nat), vs[i]? = some vi → vs[j]? = some vj → vi.ownBlock = some g → vj.ownBlock = some g → i = j) ∧
    ∀ (j : Nat) (v : Value) (g : Nat), vs[j]? = some v → v.ownBlock = some g → g ≠ X
theorem Effs.start {w : World} {B F n : Nat} (h : Blk w F 55 (List.replicate n (.slice none 0 0))) (hB : F < B) (rows : Nat → List Nat) (X : Nat) (hr : ∀ j, rows j = []) : Effs w B F n rows X := by
  refine ⟨hB, _, by simp, h, fun j v hv => ?_, fun i j vi vj g hi hj h1 h2 => ?_, fun j v g hv hg => ?_⟩
  · rw [List.getElem?_replicate] at hv
    split at hv
    · cases hv; rw [hr]; exact World.ownsRow_nil _ _ _ _
    · cases hv
  · rw [List.getElem?_replicate] at hi
    split at hi
    · cases hi; cases h1
    · cases hi
  · rw [List.getElem?_replicate] at hv
    split at hv
    · cases hv; cases hg
    · cases hv
theorem Effs.below {w w' : World} {B F n : Nat} {rows : Nat → List Nat} {X : Nat} (h : Effs w B F n rows X) (hB : Below w.heap.size w w') : Effs w' B F n rows X := by
  obtain ⟨vs, h1, h2, h3, h4, h5⟩ := h.ex
  exact ⟨h.hFB, vs, h1, h2.below hB h2.lt, fun j v hv => ownsRow_chg (h3 j v hv) ((Chg.refl (fun _ => False) w).below hB (fun k a b => by omega)) (fun _ _ q => q), h4, h5⟩
theorem Effs.chg {S : Nat → Prop} {w w' : World} {B F n : Nat} {rows : Nat → List Nat} {X : Nat} (h : Effs w B F n rows X) (hc : Chg S w w') (h1 : ¬ S F) (h2 : ∀ g, B ≤ g → ¬ S g) : Effs w' B F n rows X := by
  obtain ⟨vs, a1, a2, a3, a4, a5⟩ := h.ex
  exact ⟨h.hFB, vs, a1, a2.chg hc h1, fun j v hv => ownsRow_chg (a3 j v hv) hc (fun k hk => h2 k ((a3 j v hv).lt k hk).1), a4, a5⟩
theorem Chg.row (w : World) (g : Nat) (cs : Array Value) : Chg (fun k => k = g) w (w.setRow g cs) :=
  ⟨rfl, rfl, rfl, by simp, fun k _ hk => setRow_other w g k cs hk⟩
theorem Effs.lt {w : World} {B F n : Nat} {rows : Nat → List Nat} {X : Nat} (h : Effs w B F n rows X) : F < w.heap.size := by
  obtain ⟨vs, h1, h2, h3, h4, h5⟩ := h.ex; exact h2.lt
theorem Effs.congr {w : World} {B F n : Nat} {rows rows' : Nat → List Nat} {X : Nat} (h : Effs w B F n rows X) (he : ∀ j, j < n → rows' j = rows j) : Effs w B F n rows' X := by
  obtain ⟨vs, h1, h2, h3, h4, h5⟩ := h.ex
  refine ⟨h.hFB, vs, h1, h2, fun j v hv => ?_, h4, h5⟩
  rw [he j (by rw [← h1]; exact (List.getElem?_eq_some_iff.1 hv).1)]
  exact h3 j v hv
/-- a block that is made now is no row's -/
theorem Effs.fresh {w : World} {B F n : Nat} {rows : Nat → List Nat} {X : Nat} (h : Effs w B F n rows X) {w' : World} (hB : Below w.heap.size w w') : Effs w' B F n rows w.heap.size := by
  have h' := h.below hB
  obtain ⟨vs, h1, h2, h3, h4, h5⟩ := h.ex
  refine ⟨h.hFB, vs, h1, h2.below hB h2.lt, fun j v hv => ownsRow_chg (h3 j v hv) ((Chg.refl (fun _ => False) w).below hB (fun k a b => by omega)) (fun _ _ q => q), h4, fun j v g hv hg => ?_⟩
  have := ((h3 j v hv).lt g hg).2
  omega
/-- one row, to be appended to -/
theorem Effs.row {w : World} {B F n : Nat} {rows : Nat → List Nat} {X : Nat} (h : Effs w B F n rows X) (hX : X < w.heap.size) {j : Nat} (hj : j < n) :
    ∃ v, w.cell? ⟨F, j, none⟩ = some v ∧ w.ownsRow B 3 1 v (rows j).length (natsV (rows j)) ∧ some X ≠ v.ownBlock ∧
      (∀ (w1 : World) (g cap x : Nat) (rows' : Nat → List Nat), w.grownBy w1 v.ownBlock → w1.ownsRow B 3 1 (.slice (some ⟨g, 0, none⟩) (rows' j).length cap) (rows' j).length (natsV (rows' j)) → (v.ownBlock = some g ∨ w.heap.size ≤ g) → rows' j = rows j ++ [x] → (∀ i, i ≠ j → rows' i = rows i) →
        Effs (w1.setCell ⟨F, j, none⟩ (.slice (some ⟨g, 0, none⟩) (rows' j).length cap)) B F n rows' X) := by
  obtain ⟨vs, h1, h2, h3, h4, h5⟩ := h.ex
  obtain ⟨v, hv⟩ : ∃ v, vs[j]? = some v := ⟨_, List.getElem?_eq_getElem (by omega)⟩
  refine ⟨v, by rw [h2.cell, hv], h3 j v hv, fun q => h5 j v X hv q.symm rfl, ?_⟩
  intro w1 g cap x rows' hg hown hat hrj hri
  have hF1 : Blk w1 F 55 vs := h2.grown hg (fun e => by have := ((h3 j v hv).lt F e.symm).1; have := h.hFB; omega)
  have hgF : F < g := by
    have := (hown.lt g rfl).1; have := h.hFB; omega
  have hFB := h.hFB
  refine ⟨h.hFB, vs.set j (.slice (some ⟨g, 0, none⟩) (rows' j).length cap), by simpa using h1, hF1.set j _, ?_, ?_, ?_⟩
  · intro i u hu
    have hset : Chg (fun k => k = F) w1 (w1.setCell ⟨F, j, none⟩ (.slice (some ⟨g, 0, none⟩) (rows' j).length cap)) := (Chg.refl (fun k => k = F) w1).set (p := ⟨F, j, none⟩) rfl _
    rw [List.getElem?_set] at hu
    by_cases e : j = i
    · subst e
      rw [if_pos rfl] at hu
      split at hu
      · cases hu
        exact ownsRow_chg hown hset (fun k hk => by simp only [Value.ownBlock, Option.some.injEq] at hk; omega)
      · cases hu
    · rw [if_neg e] at hu
      rw [hri i (fun q => e q.symm)]
      have hi := h3 i u hu
      have c1 : Chg (fun k => v.ownBlock = some k) w w1 := (Chg.refl _ w).grown hg (fun k hk => hk)
      exact ownsRow_chg (ownsRow_chg hi c1 (fun k hk q => e (h4 j i v u k hv hu q hk))) hset (fun k hk => by have := (hi.lt k hk).1; show ¬ k = F; omega)
  · intro a b va vb k ha hb ka kb
    rw [List.getElem?_set] at ha hb
    have key : ∀ i u, i ≠ j → vs[i]? = some u → u.ownBlock = some g → False := by
      intro i u hij hu hug
      rcases hat with q | q
      · exact hij (h4 i j u v g hu hv hug q)
      · have := ((h3 i u hu).lt g hug).2; omega
    by_cases ea : j = a
    · by_cases eb : j = b
      · omega
      · rw [if_pos ea] at ha
        rw [if_neg eb] at hb
        split at ha
        · cases ha
          simp only [Value.ownBlock, Option.some.injEq] at ka
          subst ka
          exact (key b vb (fun q => eb q.symm) hb kb).elim
        · cases ha
    · rw [if_neg ea] at ha
      by_cases eb : j = b
      · rw [if_pos eb] at hb
        split at hb
        · cases hb
          simp only [Value.ownBlock, Option.some.injEq] at kb
          subst kb
          exact (key a va (fun q => ea q.symm) ha ka).elim
        · cases hb
      · rw [if_neg eb] at hb
        exact h4 a b va vb k ha hb ka kb
  · intro i u q hu hq
    rw [List.getElem?_set] at hu
    by_cases e : j = i
    · rw [if_pos e] at hu
      split at hu
      · cases hu
        simp only [Value.ownBlock, Option.some.injEq] at hq
        subst hq
        rcases hat with r | r
        · exact h5 j v g hv r
        · omega
      · cases hu
    · rw [if_neg e] at hu
      exact h5 i u q hu hq
/-- a row of the call's own, as a slice to be read -/
theorem row_slv {w : World} {B : Nat} {E : TypeId} {v : Value} {xs : List Value} (h : w.ownsRow B E 1 v xs.length xs) : ∃ ao cap, v = .slice ao xs.length cap ∧ SlV w ao xs ∧ ∀ b off, ao = some ⟨b, off, none⟩ → B ≤ b ∧ b < w.heap.size := by
  have hlt := h.lt
  by_cases hb : B ≤ w.heap.size
  · obtain ⟨ao, cap, h1, h2, _⟩ := (⟨h, Below.refl B w, hb⟩ : Mine B w w E v xs).slv
    exact ⟨ao, cap, h1, h2, fun b off e => hlt b (by rw [h1, e]; rfl)⟩
  · rcases h.2 with ⟨e, h3⟩ | ⟨g, cap, cur, hv, hg, hgg, _⟩
    · have : xs = [] := List.eq_nil_of_length_eq_zero h3
      subst this
      exact ⟨none, 0, e, ⟨by simp, by simp⟩, fun _ _ q => by cases q⟩
    · have := (Array.getElem?_eq_some_iff.1 hgg).1; omega
/-- the graph that is read; its blocks lie from A on, ahead of B -/
structure Gr (w : World) (L : List Ent) (mb F A B : Nat) : Prop where
  map : MapIs w mb Value.string (atM L L.length)
  hmb : A ≤ mb ∧ mb < B
  hF : A ≤ F ∧ F < B
  hB : B ≤ w.heap.size
  row : ∀ (j : Nat) (e : Ent), L[j]? = some e → ∃ ao cap, w.cell? ⟨F, j, none⟩ = some (.slice ao (eff L L.length e.id).length cap) ∧ SlV w ao (natsV (eff L L.length e.id)) ∧ ∀ b off, ao = some ⟨b, off, none⟩ → A ≤ b ∧ b < B
theorem Gr.chg {S : Nat → Prop} {w w' : World} {L : List Ent} {mb F A B : Nat} (h : Gr w L mb F A B) (hc : Chg S w w') (hS : ∀ k, A ≤ k → k < B → ¬ S k) : Gr w' L mb F A B :=
  ⟨h.map.chg hc (hS _ h.hmb.1 h.hmb.2), h.hmb, h.hF, Nat.le_trans h.hB hc.size, fun j e he => by
    obtain ⟨ao, cap, h1, h2, h3⟩ := h.row j e he
    refine ⟨ao, cap, ?_, h2.chg hc (fun b off q _ => hS b (h3 b off q).1 (h3 b off q).2), h3⟩
    rw [← h1]
    exact World.cell?_of_block (w := w) (a := ⟨F, j, none⟩) (hc.block F (Nat.lt_of_lt_of_le h.hF.2 h.hB) (hS _ h.hF.1 h.hF.2))⟩
theorem Gr.below {w w' : World} {L : List Ent} {mb F A B : Nat} (h : Gr w L mb F A B) (hB : Below w.heap.size w w') : Gr w' L mb F A B :=
  h.chg ((Chg.refl (fun _ => False) w).below hB (fun k a b => by omega)) (fun _ _ _ q => q)
theorem Effs.gr {w : World} {L : List Ent} {mb F A : Nat} (hm : MapIs w mb Value.string (atM L L.length)) {B X : Nat} (hX : X < w.heap.size) (h : Effs w B F L.length (fun j => eff L L.length ((ids L).getD j ByteArray.empty)) X) (hA : A ≤ mb ∧ A ≤ F) : Gr w L mb F A w.heap.size := by
  refine ⟨hm, ⟨hA.1, hm.lt⟩, ⟨hA.2, h.lt⟩, Nat.le_refl _, fun j e he => ?_⟩
  obtain ⟨v, h1, h2, _⟩ := h.row hX (j := j) (List.getElem?_eq_some_iff.1 he).1
  have e1 : (ids L).getD j ByteArray.empty = e.id := by rw [List.getD, ids_get he]; rfl
  simp only [e1] at h2
  rw [show (eff L L.length e.id).length = (natsV (eff L L.length e.id)).length by simp [natsV]] at h2
  obtain ⟨ao, cap, rfl, h3, h4⟩ := row_slv h2
  have := h.hFB
  exact ⟨ao, cap, by rw [h1]; simp [natsV], h3, fun b off q => by have := h4 b off q; omega⟩
end Go.Proofs.YtgkgpfennlkcnaaDoor
