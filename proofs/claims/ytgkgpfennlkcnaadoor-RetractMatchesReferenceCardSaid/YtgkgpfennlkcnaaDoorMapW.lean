/- A map whose keys and values are known: looking up, storing. -/
import Derived.Test.YtgkgpfennlkcnaaDoorMapR
import Derived.MapKept
namespace Go.Proofs.YtgkgpfennlkcnaaDoor
open Go.RowKit

/-- keys that are compared by what they hold -/
structure KeyLike {K : Type} [DecidableEq K] (d : TypeDesc) (v : K → Value) : Prop where
  same : ∀ a b, Instr.sameNow d (v a) (v b) = some (decide (a = b))
  isKey : ∀ a, MapKept.IsKey d (v a)
  bits : ∀ a, Instr.sameBits 10000 (v a) (v a) = true
theorem beq_dec (a b : ByteArray) : (a == b) = decide (a = b) := by
  obtain ⟨a⟩ := a; obtain ⟨b⟩ := b
  have : ((⟨a⟩ : ByteArray) == ⟨b⟩) = (a == b) := rfl
  rw [this]
  by_cases h : a = b <;> simp [h]
instance bytesRefl : ReflBEq ByteArray := ⟨fun {a} => by rw [beq_dec]; exact decide_eq_true rfl⟩
instance bytesLawful : LawfulBEq ByteArray := ⟨fun {a b} h => by rw [beq_dec] at h; exact of_decide_eq_true h⟩
theorem strKey : KeyLike .string (fun s : ByteArray => Value.string s) :=
  ⟨fun a b => by simp only [Instr.sameNow, beq_dec], fun _ => trivial, fun a => by simp only [Instr.sameBits, beq_dec, decide_true]⟩
theorem intKey : KeyLike (.int .i64) (fun n : Int => Value.int .i64 n) :=
  ⟨fun a b => by simp only [Instr.sameNow, if_true]; by_cases h : a = b <;> simp [h], fun _ => rfl, fun a => by simp [Instr.sameBits]⟩
section
variable {K : Type} [DecidableEq K]
def lkM (m : List (K × Value)) (k : K) : Option Value := (m.find? (fun p => decide (k = p.1))).map (·.2)
def upM : List (K × Value) → K → Value → List (K × Value)
  | [], k, x => [(k, x)]
  | p :: m, k, x => if k = p.1 then (k, x) :: m else p :: upM m k x
def entM (v : K → Value) (p : K × Value) : Value × Value := (v p.1, p.2)
structure MapIs (w : World) (b : Nat) (v : K → Value) (m : List (K × Value)) : Prop where
  ex : ∃ es clock, w.heap[b]? = some (.map es clock) ∧ (∀ x ∈ es.toList, x.born < clock) ∧ (es.toList.map (·.born)).Nodup ∧ es.toList.map (fun e => (e.key, e.val)) = m.map (entM v)
omit [DecidableEq K] in
theorem MapIs.lt {w : World} {b : Nat} {v : K → Value} {m : List (K × Value)} (h : MapIs w b v m) : b < w.heap.size := by
  obtain ⟨_, _, h, _⟩ := h.ex; exact (Array.getElem?_eq_some_iff.1 h).1
omit [DecidableEq K] in
theorem MapIs.chg {S : Nat → Prop} {w w' : World} {b : Nat} {v : K → Value} {m : List (K × Value)} (h : MapIs w b v m) (hc : Chg S w w') (hn : ¬ S b) : MapIs w' b v m := by
  obtain ⟨es, c, h1, h2⟩ := h.ex
  exact ⟨es, c, (hc.block _ (Array.getElem?_eq_some_iff.1 h1).1 hn).trans h1, h2⟩
omit [DecidableEq K] in
theorem MapIs.below {w w' : World} {B b : Nat} {v : K → Value} {m : List (K × Value)} (h : MapIs w b v m) (hB : Below B w w') (hb : b < B) : MapIs w' b v m := by
  obtain ⟨es, c, h1, h2⟩ := h.ex
  exact ⟨es, c, (hB.block _ hb).trans h1, h2⟩
omit [DecidableEq K] in
theorem MapIs.grown {w w' : World} {b : Nat} {v : K → Value} {m : List (K × Value)} {row : Option Nat} (h : MapIs w b v m) (hg : w.grownBy w' row) (hne : some b ≠ row) : MapIs w' b v m := by
  obtain ⟨es, c, h1, h2⟩ := h.ex
  exact ⟨es, c, (hg.block _ (Array.getElem?_eq_some_iff.1 h1).1 hne).trans h1, h2⟩
omit [DecidableEq K] in
theorem MapIs.new (w : World) (v : K → Value) : MapIs (w.alloc (.map #[] 0)) w.heap.size v [] :=
  ⟨#[], 0, by show (w.heap.push _)[w.heap.size]? = _; simp, by simp, by simp, rfl⟩
theorem find_no {d : TypeDesc} {v : K → Value} (H : KeyLike d v) (k : K) : ∀ (m : List (K × Value)) (l : List MapEntry) (i : Nat), l.map (fun e => (e.key, e.val)) = m.map (entM v) → lkM m k = none → Instr.findNow d (v k) l i = some none
  | [], [], _, _, _ => rfl
  | [], _ :: _, _, h, _ => by simp at h
  | _ :: _, [], _, h, _ => by simp at h
  | p :: m, e :: l, i, h, hk => by
    simp only [List.map_cons, List.cons.injEq, entM, Prod.mk.injEq] at h
    unfold lkM at hk
    rw [List.find?_cons] at hk
    by_cases hp : k = p.1
    · rw [decide_eq_true hp] at hk; simp at hk
    · rw [decide_eq_false hp] at hk
      unfold Instr.findNow
      rw [h.1.1, H.same, decide_eq_false hp]
      exact find_no H k m l (i + 1) h.2 hk
theorem find_yes {d : TypeDesc} {v : K → Value} (H : KeyLike d v) (k : K) (x : Value) : ∀ (m : List (K × Value)) (l : List MapEntry) (i : Nat), l.map (fun e => (e.key, e.val)) = m.map (entM v) → lkM m k = some x →
    ∃ j e, Instr.findNow d (v k) l i = some (some (i + j, x)) ∧ l[j]? = some e ∧ e.key = v k ∧ e.val = x ∧ ∀ y, (l.modify j (fun e => { e with key := v k, val := y })).map (fun e => (e.key, e.val)) = (upM m k y).map (entM v)
  | [], _, _, _, hk => by simp [lkM] at hk
  | _ :: _, [], _, h, _ => by simp at h
  | p :: m, e :: l, i, h, hk => by
    simp only [List.map_cons, List.cons.injEq, entM, Prod.mk.injEq] at h
    unfold lkM at hk
    rw [List.find?_cons] at hk
    by_cases hp : k = p.1
    · rw [decide_eq_true hp] at hk
      simp at hk
      refine ⟨0, e, ?_, rfl, ?_, ?_, fun y => ?_⟩
      · unfold Instr.findNow
        rw [h.1.1, H.same, decide_eq_true hp, h.1.2, hk]
        rfl
      · rw [h.1.1, hp]
      · rw [h.1.2, hk]
      · simp only [upM, if_pos hp, List.modify_zero_cons, List.map_cons, entM]
        rw [h.2]
    · rw [decide_eq_false hp] at hk
      obtain ⟨j, e', h1, h2, h3, h4, h5⟩ := find_yes H k x m l (i + 1) h.2 hk
      refine ⟨j + 1, e', ?_, by simpa using h2, h3, h4, fun y => ?_⟩
      · unfold Instr.findNow
        rw [h.1.1, H.same, decide_eq_false hp]
        rw [show i + (j + 1) = i + 1 + j by omega]
        exact h1
      · simp only [upM, if_neg hp, List.modify_succ_cons, List.map_cons, entM, h.1.1, h.1.2]
        rw [h5 y]
theorem upM_new {m : List (K × Value)} {k : K} (h : lkM m k = none) (x : Value) : upM m k x = m ++ [(k, x)] := by
  induction m with
  | nil => rfl
  | cons p m ih =>
    unfold lkM at h
    rw [List.find?_cons] at h
    by_cases hp : k = p.1
    · rw [decide_eq_true hp] at h; simp at h
    · rw [decide_eq_false hp] at h
      simp only [upM, if_neg hp, List.cons_append]
      rw [ih h]
theorem lkM_up (m : List (K × Value)) (k : K) (x : Value) (k' : K) : lkM (upM m k x) k' = if k' = k then some x else lkM m k' := by
  induction m with
  | nil => unfold upM lkM; by_cases h : k' = k <;> simp [List.find?_cons, h]
  | cons p m ih =>
    unfold upM
    by_cases hp : k = p.1
    · rw [if_pos hp]
      unfold lkM
      rw [List.find?_cons, List.find?_cons]
      by_cases h : k' = k
      · simp [h]
      · have : ¬ k' = p.1 := by rw [← hp]; exact h
        simp [h, this]
    · rw [if_neg hp]
      unfold lkM at ih ⊢
      rw [List.find?_cons, List.find?_cons]
      by_cases h : k' = p.1
      · have : ¬ k' = k := by rw [h]; exact fun e => hp e.symm
        subst h
        simp [this]
      · simp only [decide_eq_false h]
        exact ih
theorem MapIs.run_look {P : Program} {w : World} {b : Nat} {v : K → Value} {m : List (K × Value)} {d : TypeDesc} (H : KeyLike d v) {t k e : TypeId} (ht : P.underlying t = some (.map k e)) (hk : P.underlying k = some d)
    {z : Value} (hz : (zeroValue e).run P w = .ok z w) (h : MapIs w b v m) (x : K) (c : Bool) :
    (Instr.lookup t (.map (some b)) (v x) c).run P w = .ok (if c then .tuple #[(lkM m x).getD z, .bool (lkM m x).isSome] else (lkM m x).getD z) w := by
  obtain ⟨es, cl, hb, h1, h2, h3⟩ := h.ex
  cases hl : lkM m x with
  | none =>
    have hf := find_no H x m es.toList 0 h3 hl
    simp only [Instr.lookup, Sem.run_bind, run_underlying ht, MapKept.run_getObj_map hb, Sem.run_pure, MapKept.run_checkKey hk (H.isKey x), MapKept.run_findKey hk hf, hz, Result.andThen, Option.getD_none, Option.isSome_none]
  | some y =>
    obtain ⟨j, e', hf, _⟩ := find_yes H x y m es.toList 0 h3 hl
    simp only [Instr.lookup, Sem.run_bind, run_underlying ht, MapKept.run_getObj_map hb, Sem.run_pure, MapKept.run_checkKey hk (H.isKey x), MapKept.run_findKey hk hf, Result.andThen, Option.getD_some, Option.isSome_some]
theorem grownBy_setObj (w : World) (b : Nat) (o : Obj) : w.grownBy { w with heap := w.heap.setIfInBounds b o } (some b) := by
  refine ⟨rfl, rfl, rfl, ?_, fun k _ hk => ?_⟩
  · show w.heap.size ≤ (w.heap.setIfInBounds b o).size
    rw [Array.size_setIfInBounds]; exact Nat.le_refl _
  · show (w.heap.setIfInBounds b o)[k]? = _
    rw [Array.getElem?_setIfInBounds_ne (fun e => hk (by rw [e]))]
theorem MapIs.run_up {P : Program} {w : World} {b : Nat} {v : K → Value} {m : List (K × Value)} {d : TypeDesc} (H : KeyLike d v) {t k e : TypeId} (ht : P.underlying t = some (.map k e)) (hk : P.underlying k = some d)
    (h : MapIs w b v m) (x : K) (y : Value) :
    ∃ w', (Instr.mapUpdate t (.map (some b)) (v x) y).run P w = .ok () w' ∧ MapIs w' b v (upM m x y) ∧ w.grownBy w' (some b) := by
  obtain ⟨es, cl, hb, h1, h2, h3⟩ := h.ex
  have hlt : b < w.heap.size := (Array.getElem?_eq_some_iff.1 hb).1
  cases hl : lkM m x with
  | none =>
    have hf := find_no H x m es.toList 0 h3 hl
    refine ⟨{ w with heap := w.heap.setIfInBounds b (.map (es.push { key := v x, val := y, born := cl }) (cl + 1)) }, ?_, ⟨_, _, Array.getElem?_setIfInBounds_self_of_lt hlt, ?_, ?_, ?_⟩, grownBy_setObj _ _ _⟩
    · simp only [Instr.mapUpdate, Sem.run_bind, run_underlying ht, MapKept.run_getObj_map hb, MapKept.run_checkKey hk (H.isKey x), MapKept.run_findKey hk hf, MapKept.run_setObj_map _ hb, Result.andThen]
    · intro q hq
      simp only [Array.toList_push, List.mem_append, List.mem_singleton] at hq
      rcases hq with hq | rfl
      · exact Nat.lt_succ_of_lt (h1 q hq)
      · exact Nat.lt_succ_self _
    · simp only [Array.toList_push, List.map_append, List.map_cons, List.map_nil]
      refine List.nodup_append.2 ⟨h2, by simp, ?_⟩
      intro a ha c hc
      simp only [List.mem_singleton] at hc
      subst hc
      obtain ⟨q, hq, rfl⟩ := List.mem_map.1 ha
      exact Nat.ne_of_lt (h1 q hq)
    · rw [upM_new hl]
      simp only [Array.toList_push, List.map_append, List.map_cons, List.map_nil, h3, entM]
  | some y0 =>
    obtain ⟨j, e', hf, hj, hkey, hval, hmod⟩ := find_yes H x y0 m es.toList 0 h3 hl
    rw [Nat.zero_add] at hf
    have hj' : es[j]? = some e' := by rw [← Array.getElem?_toList]; exact hj
    have hkt : (Instr.keyThatStays (((es[j]?).map (·.key)).getD (v x)) (v x)).run P w = .ok (v x) w := by
      rw [hj']
      simp only [Option.map_some, Option.getD_some, hkey, Instr.keyThatStays, H.bits, if_true, Sem.run_pure]
    refine ⟨{ w with heap := w.heap.setIfInBounds b (.map (es.modify j fun e => { e with key := v x, val := y }) cl) }, ?_, ⟨_, _, Array.getElem?_setIfInBounds_self_of_lt hlt, ?_, ?_, ?_⟩, grownBy_setObj _ _ _⟩
    · simp only [Instr.mapUpdate, Sem.run_bind, run_underlying ht, MapKept.run_getObj_map hb, MapKept.run_checkKey hk (H.isKey x), MapKept.run_findKey hk hf, hkt, MapKept.run_setObj_map _ hb, Result.andThen]
    · intro q hq
      obtain ⟨i, hi⟩ := List.mem_iff_getElem?.1 hq
      rw [Array.getElem?_toList, Array.getElem?_modify] at hi
      by_cases hij : j = i
      · subst hij
        rw [if_pos rfl, hj'] at hi
        simp at hi
        subst hi
        exact h1 e' (List.mem_of_getElem? hj)
      · rw [if_neg hij] at hi
        exact h1 q (List.mem_of_getElem? (by rw [Array.getElem?_toList]; exact hi))
    · have : (es.modify j fun e => { e with key := v x, val := y }).toList.map (·.born) = es.toList.map (·.born) := by
        apply List.ext_getElem?
        intro i
        simp only [List.getElem?_map, Array.getElem?_toList, Array.getElem?_modify]
        by_cases hij : j = i
        · subst hij; rw [if_pos rfl, hj']; rfl
        · rw [if_neg hij]
      rw [this]; exact h2
    · rw [Array.toList_modify]
      exact hmod y
theorem wpl_lookok {P : Program} {ops : Array Oper} {rest : List Oper} {o : Oper} {a : Act} {Q : Exit → Act → World → Prop} {w : World} (hgd : o.guard = none) (mo xo : Operand) (t : TypeId) (ho : o.op = .lookup t mo xo true)
    {d : TypeDesc} {v : K → Value} (H : KeyLike d v) (k e : TypeId) (ht : P.underlying t = some (.map k e)) (hk : P.underlying k = some d) (z : Value) (hz : (zeroValue e).run P w = .ok z w)
    (b : Nat) (m : List (K × Value)) (hx : a.eval mo = .map (some b)) (h : MapIs w b v m) (x : K) (hxo : a.eval xo = v x)
    (hK : wpList P ops Q rest (a.put o.dst (.tuple #[(lkM m x).getD z, .bool (lkM m x).isSome])) w) : wpList P ops Q (o :: rest) a w := by
  refine wpList_plain hgd fun K' hK' => ?_
  unfold Oper.wp execOp
  have hrun := h.run_look H ht hk hz x true
  simp only [ho, Sem.run_bind, Sem.run_pure, Result.andThen_ok, hx, hxo, hrun]
  exact hK' _ _ hK
theorem wpl_mapset {P : Program} {ops : Array Oper} {rest : List Oper} {o : Oper} {a : Act} {Q : Exit → Act → World → Prop} {w : World} (hgd : o.guard = none) (mo xo yo : Operand) (t : TypeId) (ho : o.op = .mapUpdate t mo xo yo)
    {d : TypeDesc} {v : K → Value} (H : KeyLike d v) (k e : TypeId) (ht : P.underlying t = some (.map k e)) (hk : P.underlying k = some d)
    (b : Nat) (m : List (K × Value)) (hx : a.eval mo = .map (some b)) (h : MapIs w b v m) (x : K) (hxo : a.eval xo = v x)
    (hK : ∀ w', MapIs w' b v (upM m x (a.eval yo)) → w.grownBy w' (some b) → wpList P ops Q rest (a.put o.dst undef) w') : wpList P ops Q (o :: rest) a w := by
  refine wpList_plain hgd fun K' hK' => ?_
  obtain ⟨w', hrun, h1, h2⟩ := h.run_up H ht hk x (a.eval yo)
  unfold Oper.wp
  simp [execOp, ho, hx, hxo, hrun, Result.andThen]
  exact hK' _ _ (hK w' h1 h2)
end
end Go.Proofs.YtgkgpfennlkcnaaDoor
