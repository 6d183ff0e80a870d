/- Ranging over a map whose entries are known: the order is whatever the tape says. -/
import Derived.Test.YtogcnmjipfllaaaDoorLib
import Derived.Maps.RangeWalk
namespace Go.Proofs.YtogcnmjipfllaaaDoor
open Go.RowKit

/-- block r: an iterator over the map in block bm, whose entries are es; those stamped in seen have come -/
structure Iter (w : World) (r bm : Nat) (es : Array MapEntry) (seen : Array Nat) : Prop where
  ex : ∃ since c0 clock, since ≤ c0 ∧ since ≤ clock ∧ (∀ x ∈ es.toList, x.born < since) ∧ w.heap[r]? = some (.mapIter (some bm) since seen c0) ∧ w.heap[bm]? = some (.map es clock)
theorem Iter.lt {w : World} {r bm : Nat} {es : Array MapEntry} {seen : Array Nat} (h : Iter w r bm es seen) : r < w.heap.size := by
  obtain ⟨_, _, _, _, _, _, h, _⟩ := h.ex; exact (Array.getElem?_eq_some_iff.1 h).1
theorem Iter.ltm {w : World} {r bm : Nat} {es : Array MapEntry} {seen : Array Nat} (h : Iter w r bm es seen) : bm < w.heap.size := by
  obtain ⟨_, _, _, _, _, _, _, h⟩ := h.ex; exact (Array.getElem?_eq_some_iff.1 h).1
theorem Iter.chg {S : Nat → Prop} {w w' : World} {r bm : Nat} {es : Array MapEntry} {seen : Array Nat} (h : Iter w r bm es seen) (hc : Chg S w w') (h1 : ¬ S r) (h2 : ¬ S bm) : Iter w' r bm es seen := by
  obtain ⟨s, c, k, q1, q2, q0, q3, q5⟩ := h.ex
  exact ⟨s, c, k, q1, q2, q0, (hc.block _ (Array.getElem?_eq_some_iff.1 q3).1 h1).trans q3, (hc.block _ (Array.getElem?_eq_some_iff.1 q5).1 h2).trans q5⟩
theorem Iter.left {w : World} {r bm : Nat} {es : Array MapEntry} {seen : Array Nat} (h : Iter w r bm es seen) : w.rangeLeft bm r = (leftOf es seen).size := by
  obtain ⟨s, c, k, q1, q2, q0, q3, q5⟩ := h.ex
  simp only [World.rangeLeft, q3, q5]

theorem wpl_range {P : Program} {ops : Array Oper} {rest : List Oper} {o : Oper} {a : Act} {Q : Exit → Act → World → Prop} {w : World} (hgd : o.guard = none) (m : Operand) (t : TypeId) (ho : o.op = .range t m) (k e : TypeId)
    (ht : P.underlying t = some (.map k e)) (bm clock : Nat) (es : Array MapEntry) (hx : a.eval m = .map (some bm)) (hb : w.heap[bm]? = some (.map es clock)) (hs : ∀ x ∈ es.toList, x.born < clock)
    (h : ∀ w1, Iter w1 w.heap.size bm es #[] → Below w.heap.size w w1 → wpList P ops Q rest (a.put o.dst (.pointer (some ⟨w.heap.size, 0, none⟩))) w1) : wpList P ops Q (o :: rest) a w := by
  refine wpList_plain hgd fun K hK => ?_
  have hrun : (Instr.range t (.map (some bm))).run P w = .ok (.pointer (some ⟨w.heap.size, 0, none⟩)) (w.alloc (.mapIter (some bm) clock #[] clock)) := by
    simp only [Instr.range, Sem.run_bind, run_underlying ht, Result.andThen_ok, MapKept.run_getObj_map hb]
    rfl
  unfold Oper.wp execOp
  simp only [ho, Sem.run_bind, Sem.run_pure, Result.andThen_ok, hx, hrun]
  have hlt : bm < w.heap.size := (Array.getElem?_eq_some_iff.1 hb).1
  refine hK _ _ (h _ ⟨clock, clock, clock, Nat.le_refl _, Nat.le_refl _, hs, by show (w.heap.push _)[w.heap.size]? = _; simp, (Below.heap_alloc w _ bm hlt).trans hb⟩ (below_alloc w _))

theorem wpl_next {P : Program} {ops : Array Oper} {rest : List Oper} {o : Oper} {a : Act} {Q : Exit → Act → World → Prop} {w : World} (hgd : o.guard = none) (it : Operand) (ho : o.op = .next it false)
    (r bm : Nat) (es : Array MapEntry) (seen : Array Nat) (hx : a.eval it = .pointer (some ⟨r, 0, none⟩)) (hI : Iter w r bm es seen) (hn : (es.toList.map (·.born)).Nodup)
    (h0 : (leftOf es seen).size = 0 → wpList P ops Q rest (a.put o.dst (.tuple #[.bool false])) w)
    (h1 : ∀ e w1, e ∈ (leftOf es seen).toList → Iter w1 r bm es (seen.push e.born) → Chg (fun k => k = r) w w1 → (Instr.entry (.pointer (some ⟨r, 0, none⟩))).run P w1 = .ok (.tuple #[e.key, e.val]) w1 →
      wpList P ops Q rest (a.put o.dst (.tuple #[.bool true, e.key, e.val])) w1) : wpList P ops Q (o :: rest) a w := by
  refine wpList_plain hgd fun K hK => ?_
  unfold Oper.wp execOp
  obtain ⟨since, c0, clock, q1, q4, q2, q3, q5⟩ := hI.ex
  rcases run_next_at (P := P) w o.type r bm since c0 seen es clock q3 q5 q2 q1 with ⟨hz, hrun⟩ | ⟨e, he, w1, hw1, hrun⟩
  · simp only [ho, Sem.run_bind, Sem.run_pure, Result.andThen_ok, hx, hrun]
    exact hK _ _ (h0 hz)
  · simp only [ho, Sem.run_bind, Sem.run_pure, Result.andThen_ok, hx, hrun]
    have hne : r ≠ bm := by rintro rfl; rw [q3] at q5; cases q5
    have hp : w1.heap = w.heap ∧ w1.os = w.os ∧ w1.tape = w.tape ∧ w1.output = w.output := by rcases hw1 with rfl | rfl <;> exact ⟨rfl, rfl, rfl, rfl⟩
    obtain ⟨p1, p2, p3, p4⟩ := hp
    have hr : (ChangeMaps.setBlock w1 r (.mapIter (some bm) since (seen.push e.born) clock)).heap[r]? = some (.mapIter (some bm) since (seen.push e.born) clock) := by
      show (w1.heap.setIfInBounds r _)[r]? = _
      rw [Array.getElem?_setIfInBounds_self_of_lt (by rw [p1]; exact (Array.getElem?_eq_some_iff.1 q3).1)]
    have hk : ∀ k, k ≠ r → (ChangeMaps.setBlock w1 r (.mapIter (some bm) since (seen.push e.born) clock)).heap[k]? = w.heap[k]? := by
      intro k hkr
      show (w1.heap.setIfInBounds r _)[k]? = _
      rw [Array.getElem?_setIfInBounds_ne (fun h => hkr h.symm), p1]
    have hb' := (hk bm hne.symm).trans q5
    have hmem := mem_left he
    refine hK _ _ (h1 e _ he ⟨since, clock, clock, q4, q4, q2, hr, hb'⟩ ⟨p2, p3, p4, ?_, fun k _ hk' => hk k hk'⟩ (run_entry_at _ r bm since seen es clock e hr hb' hmem.1 hn))
    show w.heap.size ≤ (w1.heap.setIfInBounds r _).size
    rw [Array.size_setIfInBounds, p1]; exact Nat.le_refl _
end Go.Proofs.YtogcnmjipfllaaaDoor
