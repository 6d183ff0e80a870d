/- flow: the operators, the map of operators: insert, lookup -/
import Derived.Test.YtogcnmjipfllaaaDoorProg
import Derived.Test.YtogcnmjipfllaaaDoorLib
import Derived.Test.YtogcnmjipfllaaaDoorLib2
import Derived.Test.YtogcnmjipfllaaaDoorLibQ
import Derived.Carry
import Derived.Maps.RangeWalk
namespace Go.Proofs.YtogcnmjipfllaaaDoor
open Go.RowKit

/-- what an operator needs -/
structure Opr where
  word : ByteArray
  sym : ByteArray
  k : Int
  t : Bool
  m : Bool
  x : Int
def Opr.v (o : Opr) : Value := .agg #[.string o.word, .string o.sym, .int .i64 o.k, .bool o.t, .bool o.m, .int .i64 o.x]
def Opr.cells (o : Opr) : List Value := [.string o.word, .string o.sym, .int .i64 o.k, .bool o.t, .bool o.m, .int .i64 o.x]
def opr (n : Int) : Opr := match n with
  | 1 => ⟨⟨#[105, 110]⟩, ⟨#[]⟩, 0, false, false, 3⟩
  | 2 => ⟨⟨#[]⟩, ⟨#[43]⟩, 2, false, false, 0⟩
  | 3 => ⟨⟨#[]⟩, ⟨#[45]⟩, 2, false, false, 0⟩
  | 4 => ⟨⟨#[]⟩, ⟨#[42]⟩, 2, false, false, 0⟩
  | 5 => ⟨⟨#[115, 99, 97, 108, 101]⟩, ⟨#[]⟩, 1, false, false, 1000000⟩
  | 6 => ⟨⟨#[109, 97, 120]⟩, ⟨#[]⟩, 2, false, false, 0⟩
  | 7 => ⟨⟨#[97, 116, 108, 101, 97, 115, 116]⟩, ⟨#[]⟩, 1, false, true, 1000000⟩
  | 8 => ⟨⟨#[97, 110, 100]⟩, ⟨#[]⟩, 2, true, true, 0⟩
  | 9 => ⟨⟨#[111, 114]⟩, ⟨#[]⟩, 2, true, true, 0⟩
  | 10 => ⟨⟨#[110, 111, 116]⟩, ⟨#[]⟩, 1, true, true, 0⟩
  | _ => ⟨⟨#[]⟩, ⟨#[]⟩, 0, false, false, 0⟩
def isO (n : Int) : Bool := decide (1 ≤ n ∧ n ≤ 10)
def oEs : Array MapEntry := #[⟨.int .i64 1, (opr 1).v, 0⟩, ⟨.int .i64 2, (opr 2).v, 1⟩, ⟨.int .i64 3, (opr 3).v, 2⟩, ⟨.int .i64 4, (opr 4).v, 3⟩, ⟨.int .i64 5, (opr 5).v, 4⟩, ⟨.int .i64 6, (opr 6).v, 5⟩, ⟨.int .i64 7, (opr 7).v, 6⟩, ⟨.int .i64 8, (opr 8).v, 7⟩, ⟨.int .i64 9, (opr 9).v, 8⟩, ⟨.int .i64 10, (opr 10).v, 9⟩]
theorem push_set (h : Array Obj) (x y : Obj) : (h.push x).setIfInBounds h.size y = h.push y := by
  apply Array.toList_inj.1
  simp
theorem Tryd.ulOps : Tryd.prog.underlying 54 = some (.map 3 52) := by kernel_rfl
theorem Tryd.ulInt' : Tryd.prog.underlying 3 = some (.int .i64) := by kernel_rfl
theorem ins_new (w : World) (es : Array MapEntry) (c : Nat) (k : Int) (v : Value) (hf : Instr.findNow (.int .i64) (.int .i64 k) es.toList 0 = some none) :
    (Instr.mapUpdate 54 (.map (some w.heap.size)) (.int .i64 k) v).run Tryd.prog (w.alloc (.map es c)) = .ok () (w.alloc (.map (es.push { key := .int .i64 k, val := v, born := c }) (c + 1))) := by
  have hb : (w.alloc (.map es c)).heap[w.heap.size]? = some (.map es c) := heap_alloc_new w _
  simp only [Instr.mapUpdate, Sem.run_bind, run_underlying Tryd.ulOps, MapKept.run_getObj_map hb, MapKept.run_checkKey Tryd.ulInt' (k := .int .i64 k) (show MapKept.IsKey (.int .i64) (.int .i64 k) from rfl), MapKept.run_findKey Tryd.ulInt' hf, MapKept.run_setObj_map _ hb, Result.andThen]
  show Result.ok () ({ w.alloc (.map es c) with heap := (w.heap.push (.map es c)).setIfInBounds w.heap.size _ } : World) = _
  rw [push_set]
  rfl
set_option maxRecDepth 100000 in
set_option maxHeartbeats 4000000 in
theorem operators_is (w : World) : Calls Tryd.prog 19 #[] w fun e w' => e = .returned (.map (some w.heap.size)) ∧ w' = w.alloc (.map oEs 10) := by
  have hmm := @run_makeMap Tryd.prog
  have i1 := ins_new w #[] 0 1 (opr 1).v rfl
  have i2 := ins_new w #[⟨.int .i64 1, (opr 1).v, 0⟩] 1 2 (opr 2).v rfl
  have i3 := ins_new w #[⟨.int .i64 1, (opr 1).v, 0⟩, ⟨.int .i64 2, (opr 2).v, 1⟩] 2 3 (opr 3).v rfl
  have i4 := ins_new w #[⟨.int .i64 1, (opr 1).v, 0⟩, ⟨.int .i64 2, (opr 2).v, 1⟩, ⟨.int .i64 3, (opr 3).v, 2⟩] 3 4 (opr 4).v rfl
  have i5 := ins_new w #[⟨.int .i64 1, (opr 1).v, 0⟩, ⟨.int .i64 2, (opr 2).v, 1⟩, ⟨.int .i64 3, (opr 3).v, 2⟩, ⟨.int .i64 4, (opr 4).v, 3⟩] 4 5 (opr 5).v rfl
  have i6 := ins_new w #[⟨.int .i64 1, (opr 1).v, 0⟩, ⟨.int .i64 2, (opr 2).v, 1⟩, ⟨.int .i64 3, (opr 3).v, 2⟩, ⟨.int .i64 4, (opr 4).v, 3⟩, ⟨.int .i64 5, (opr 5).v, 4⟩] 5 6 (opr 6).v rfl
  have i7 := ins_new w #[⟨.int .i64 1, (opr 1).v, 0⟩, ⟨.int .i64 2, (opr 2).v, 1⟩, ⟨.int .i64 3, (opr 3).v, 2⟩, ⟨.int .i64 4, (opr 4).v, 3⟩, ⟨.int .i64 5, (opr 5).v, 4⟩, ⟨.int .i64 6, (opr 6).v, 5⟩] 6 7 (opr 7).v rfl
  have i8 := ins_new w #[⟨.int .i64 1, (opr 1).v, 0⟩, ⟨.int .i64 2, (opr 2).v, 1⟩, ⟨.int .i64 3, (opr 3).v, 2⟩, ⟨.int .i64 4, (opr 4).v, 3⟩, ⟨.int .i64 5, (opr 5).v, 4⟩, ⟨.int .i64 6, (opr 6).v, 5⟩, ⟨.int .i64 7, (opr 7).v, 6⟩] 7 8 (opr 8).v rfl
  have i9 := ins_new w #[⟨.int .i64 1, (opr 1).v, 0⟩, ⟨.int .i64 2, (opr 2).v, 1⟩, ⟨.int .i64 3, (opr 3).v, 2⟩, ⟨.int .i64 4, (opr 4).v, 3⟩, ⟨.int .i64 5, (opr 5).v, 4⟩, ⟨.int .i64 6, (opr 6).v, 5⟩, ⟨.int .i64 7, (opr 7).v, 6⟩, ⟨.int .i64 8, (opr 8).v, 7⟩] 8 9 (opr 9).v rfl
  have i10 := ins_new w #[⟨.int .i64 1, (opr 1).v, 0⟩, ⟨.int .i64 2, (opr 2).v, 1⟩, ⟨.int .i64 3, (opr 3).v, 2⟩, ⟨.int .i64 4, (opr 4).v, 3⟩, ⟨.int .i64 5, (opr 5).v, 4⟩, ⟨.int .i64 6, (opr 6).v, 5⟩, ⟨.int .i64 7, (opr 7).v, 6⟩, ⟨.int .i64 8, (opr 8).v, 7⟩, ⟨.int .i64 9, (opr 9).v, 8⟩] 9 10 (opr 10).v rfl
  simp only [opr, Opr.v, List.push_toArray, List.nil_append, List.cons_append, Nat.reduceAdd] at i1 i2 i3 i4 i5 i6 i7 i8 i9 i10
  unfold oEs
  simp only [opr, Opr.v]
  go_enter Tryd.func19, Tryd.ntmps19
  go_wp2_with fail
  go_ret
  exact ⟨rfl, rfl⟩
theorem Tryd.hv_opr : ∀ w, (zeroValue 52).run Tryd.prog w = .ok (.agg #[.string ⟨#[]⟩, .string ⟨#[]⟩, .int .i64 0, .bool false, .bool false, .int .i64 0]) w := by
  intro w
  kernel_rfl
theorem ten {n : Int} (h : 1 ≤ n ∧ n ≤ 10) : n = 1 ∨ n = 2 ∨ n = 3 ∨ n = 4 ∨ n = 5 ∨ n = 6 ∨ n = 7 ∨ n = 8 ∨ n = 9 ∨ n = 10 := by omega
theorem findO_yes {n : Int} (h : 1 ≤ n ∧ n ≤ 10) : Instr.findNow (.int .i64) (.int .i64 n) oEs.toList 0 = some (some ((n - 1).toNat, (opr n).v)) := by
  rcases ten h with rfl | rfl | rfl | rfl | rfl | rfl | rfl | rfl | rfl | rfl <;> rfl
theorem findO_no {n : Int} (h : ¬ (1 ≤ n ∧ n ≤ 10)) : Instr.findNow (.int .i64) (.int .i64 n) oEs.toList 0 = some none := by
  have hk : ∀ k : Int, 1 ≤ k ∧ k ≤ 10 → (n == k) = false := fun k hk => by rw [beq_eq_false_iff_ne]; rintro rfl; exact h hk
  simp only [oEs, Instr.findNow, Instr.sameNow, if_true]
  simp [hk 1 (by omega), hk 2 (by omega), hk 3 (by omega), hk 4 (by omega), hk 5 (by omega), hk 6 (by omega), hk 7 (by omega), hk 8 (by omega), hk 9 (by omega), hk 10 (by omega)]
theorem opr_other {n : Int} (h : ¬ (1 ≤ n ∧ n ≤ 10)) : opr n = ⟨⟨#[]⟩, ⟨#[]⟩, 0, false, false, 0⟩ := by
  unfold opr
  split <;> first | rfl | (exfalso; apply h; omega)
theorem look_any {w : World} {r c0 : Nat} (n : Int) (c : Bool) (hb : w.heap[r]? = some (.map oEs c0)) : (Instr.lookup 54 (.map (some r)) (.int .i64 n) c).run Tryd.prog w = .ok (if c then .tuple #[(opr n).v, .bool (isO n)] else (opr n).v) w := by
  by_cases h : 1 ≤ n ∧ n ≤ 10
  · have hK := findO_yes h
    rw [show isO n = true from decide_eq_true h]
    generalize oEs = E at *
    generalize (opr n).v = V at *
    simp [Instr.lookup, run_underlying Tryd.ulOps, MapKept.run_getObj_map hb, MapKept.run_checkKey Tryd.ulInt' (k := .int .i64 n) (show MapKept.IsKey (.int .i64) (.int .i64 n) from rfl), MapKept.run_findKey Tryd.ulInt' hK, Result.andThen]
  · have hK := findO_no h
    rw [show isO n = false from decide_eq_false h, opr_other h]
    generalize oEs = E at *
    simp [Instr.lookup, run_underlying Tryd.ulOps, MapKept.run_getObj_map hb, MapKept.run_checkKey Tryd.ulInt' (k := .int .i64 n) (show MapKept.IsKey (.int .i64) (.int .i64 n) from rfl), MapKept.run_findKey Tryd.ulInt' hK, Tryd.hv_opr, Result.andThen, Opr.v]
theorem look_ok {w : World} {r c0 : Nat} (n : Int) (hb : w.heap[r]? = some (.map oEs c0)) : (Instr.lookup 54 (.map (some r)) (.int .i64 n) true).run Tryd.prog w = .ok (.tuple #[(opr n).v, .bool (isO n)]) w := look_any n true hb
theorem look_no {w : World} {r c0 : Nat} (n : Int) (hb : w.heap[r]? = some (.map oEs c0)) : (Instr.lookup 54 (.map (some r)) (.int .i64 n) false).run Tryd.prog w = .ok (opr n).v w := look_any n false hb
end Go.Proofs.YtogcnmjipfllaaaDoor
