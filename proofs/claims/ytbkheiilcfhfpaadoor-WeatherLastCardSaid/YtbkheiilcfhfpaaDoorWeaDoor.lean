/- weather: Parse's door: the deferred closure, the results -/
import Derived.Test.YtbkheiilcfhfpaaDoorWeaPur
import Derived.Test.YtbkheiilcfhfpaaDoorWeaRec
import Derived.Test.YtbkheiilcfhfpaaDoorWeaAll
import Derived.Test.YtbkheiilcfhfpaaDoorLibN
namespace Go.Proofs.YtbkheiilcfhfpaaDoor
open Go.RowKit

theorem results_cell3 {P : Program} {fn : Func} {p q r : Tmp} {T U V : TypeId} (h : fn.results = #[.cell p T, .cell q U, .cell r V]) (tmps : Array Value) (w : World) (b c d : Nat) (x y z : Value)
    (hp : tmps[p]?.getD undef = .pointer (some ⟨b, 0, none⟩)) (hq : tmps[q]?.getD undef = .pointer (some ⟨c, 0, none⟩)) (hr : tmps[r]?.getD undef = .pointer (some ⟨d, 0, none⟩))
    (h1 : (loadVar T ⟨b, 0, none⟩).run P w = .ok x w) (h2 : (loadVar U ⟨c, 0, none⟩).run P w = .ok y w) (h3 : (loadVar V ⟨d, 0, none⟩).run P w = .ok z w) :
    (results fn tmps).run P w = .ok (.tuple #[x, y, z]) w := by
  simp only [results, h]
  simp [Sem.run_bind, Result.andThen, hp, hq, hr, asAddr, h1, h2, h3]
def ParsePost (w0 : World) (l : List UInt8) (e : Ending) (w' : World) : Prop :=
  ∃ v, e = .returned (.tuple #[v, .int .i64 (parseL l).2.1, .int .i64 (parseL l).2.2]) ∧ MineN 5 w0.heap.size w0 w' 32 v (parseL l).1.length (spsCells (parseL l).1)
theorem door_bad {tmps : Array Value} {w0 w : World} {l : List UInt8} {ob eb ab : Nat} {v0 : Value} {x n : Int} (hR : parseL l = ([], x, n))
    (h2 : tmps[2]?.getD undef = .pointer (some ⟨ob, 0, none⟩)) (h3 : tmps[3]?.getD undef = .pointer (some ⟨eb, 0, none⟩)) (h4 : tmps[4]?.getD undef = .pointer (some ⟨ab, 0, none⟩))
    (ho : Blk w ob 22 [v0]) (he : ∃ e, Blk w eb 27 [.int .i64 e]) (ha : ∃ n, Blk w ab 3 [.int .i64 n]) (n1 : ob ≠ eb) (n2 : ob ≠ ab) (n3 : eb ≠ ab)
    (o1 : w0.heap.size ≤ ob) (o2 : w0.heap.size ≤ eb) (o3 : w0.heap.size ≤ ab) (hB : Below w0.heap.size w0 w) :
    Leaves Tryd.prog Tryd.f14 tmps (ParsePost w0 l) [{ target := .fn (Fn.func 26) #[.pointer (some ⟨ob, 0, none⟩), .pointer (some ⟨eb, 0, none⟩), .pointer (some ⟨ab, 0, none⟩)], args := #[] }] (.panicking [{ v := failV x n, recovered := false }]) w := by
  obtain ⟨e0, he⟩ := he
  obtain ⟨a0, ha⟩ := ha
  refine leaves_cons (f := 26) (args := #[.pointer (some ⟨ob, 0, none⟩), .pointer (some ⟨eb, 0, none⟩), .pointer (some ⟨ab, 0, none⟩)]) (by simp) (by simp [go_sem]) ?_
  refine (catch_panicking ob eb ab v0 x n e0 a0 [] w ho he ha n1 n2 n3).mono ?_
  rintro e u' w' ⟨rfl, rfl, k1, k2, k3, hC⟩
  have c1 := k1.cell 0
  have c2 := k2.cell 0
  have c3 := k3.cell 0
  simp only [List.getElem?_cons_zero] at c1 c2 c3
  refine ⟨_, results_cell3 rfl _ _ ob eb ab (.slice none 0 0) (.int .i64 x) (.int .i64 n) h2 h3 h4 (by simp [go_sem, c1]) (by simp [go_sem, c2]) (by simp [go_sem, c3]), ?_⟩
  refine ⟨_, by rw [hR], ?_⟩
  rw [hR]
  exact MineN.start (hB.trans (hC.toBelow hB.size (by rintro k (rfl | rfl | rfl) <;> assumption))) (Nat.le_trans hB.size hC.size)
theorem door_ok {tmps : Array Value} {w0 w : World} {l : List UInt8} {ob eb ab B : Nat} {v : Value} {L : List Sp} (hR : parseL l = (L, 0, 0))
    (h2 : tmps[2]?.getD undef = .pointer (some ⟨ob, 0, none⟩)) (h3 : tmps[3]?.getD undef = .pointer (some ⟨eb, 0, none⟩)) (h4 : tmps[4]?.getD undef = .pointer (some ⟨ab, 0, none⟩))
    (ho : Blk w ob 22 [v]) (he : Blk w eb 27 [.int .i64 0]) (ha : Blk w ab 3 [.int .i64 0])
    (hB : Below w0.heap.size w0 w) (hm : w.ownsRow B 32 5 v L.length (spsCells L)) (hB2 : w0.heap.size ≤ B) :
    Leaves Tryd.prog Tryd.f14 tmps (ParsePost w0 l) [{ target := .fn (Fn.func 26) #[.pointer (some ⟨ob, 0, none⟩), .pointer (some ⟨eb, 0, none⟩), .pointer (some ⟨ab, 0, none⟩)], args := #[] }] .returning w := by
  refine leaves_cons (f := 26) (args := #[.pointer (some ⟨ob, 0, none⟩), .pointer (some ⟨eb, 0, none⟩), .pointer (some ⟨ab, 0, none⟩)]) (by simp) (by simp [go_sem]) ?_
  refine (catch_idle _ _ _ w).mono ?_
  rintro e u' w' ⟨rfl, rfl, hB1⟩
  have c1 := (ho.below hB1 ho.lt).cell 0
  have c2 := (he.below hB1 he.lt).cell 0
  have c3 := (ha.below hB1 ha.lt).cell 0
  simp only [List.getElem?_cons_zero] at c1 c2 c3
  obtain ⟨ao, cap, rfl⟩ : ∃ ao cap, v = .slice ao L.length cap := by
    rcases hm.2 with ⟨e, h3⟩ | ⟨g, cap, cur, hv, hg, _⟩
    · exact ⟨none, 0, by rw [e, h3]⟩
    · exact ⟨_, cap, hv⟩
  refine ⟨_, results_cell3 rfl _ _ ob eb ab _ (.int .i64 0) (.int .i64 0) h2 h3 h4 (by simp [go_sem, c1]; rfl) (by simp [go_sem, c2]) (by simp [go_sem, c3]), ?_⟩
  refine ⟨_, by rw [hR], ?_⟩
  rw [hR]
  exact ⟨ownsRow_monoN (ownsRow_chgN hm (Chg.ofBelow (S := fun _ => False) hB1) (fun _ _ h => h)) hB2, hB.trans (hB1.mono hB.size), Nat.le_trans hB.size hB1.size⟩
end Go.Proofs.YtbkheiilcfhfpaaDoor
