/- weather: kinds, the map of kinds: insert, lookup -/
import Derived.Test.YtbkheiilcfhfpaaDoorWeaBase
import Derived.Carry
namespace Go.Proofs.YtbkheiilcfhfpaaDoor
open Go.RowKit

theorem push_set (h : Array Obj) (x y : Obj) : (h.push x).setIfInBounds h.size y = h.push y := by
  apply Array.toList_inj.1
  simp
theorem Tryd.underlyingKinds : Tryd.prog.underlying 60 = some (.map 3 65) := by kernel_rfl
theorem Tryd.underlyingInt' : Tryd.prog.underlying 3 = some (.int .i64) := by kernel_rfl
theorem ins_new (w : World) (es : Array MapEntry) (c : Nat) (k : Int) (v : Value) (hf : Instr.findNow (.int .i64) (.int .i64 k) es.toList 0 = some none) :
    (Instr.mapUpdate 60 (.map (some w.heap.size)) (.int .i64 k) v).run Tryd.prog (w.alloc (.map es c)) = .ok () (w.alloc (.map (es.push { key := .int .i64 k, val := v, born := c }) (c + 1))) := by
  have hb : (w.alloc (.map es c)).heap[w.heap.size]? = some (.map es c) := heap_alloc_new w _
  simp only [Instr.mapUpdate, Sem.run_bind, run_underlying Tryd.underlyingKinds, MapKept.run_getObj_map hb, MapKept.run_checkKey Tryd.underlyingInt' (k := .int .i64 k) (show MapKept.IsKey (.int .i64) (.int .i64 k) from rfl), MapKept.run_findKey Tryd.underlyingInt' hf, MapKept.run_setObj_map _ hb, Result.andThen]
  show Result.ok () ({ w.alloc (.map es c) with heap := (w.heap.push (.map es c)).setIfInBounds w.heap.size _ } : World) = _
  rw [push_set]
  rfl

def kv (n : Int) : Value := match n with
  | 1 => .agg #[.string ⟨#[99, 108, 111, 117, 100]⟩, .func (Fn.func 45) #[] #[], .func (Fn.func 46) #[] #[]]
  | 2 => .agg #[.string ⟨#[115, 101, 101, 105, 110, 103]⟩, .func (Fn.func 47) #[] #[], .func (Fn.func 48) #[] #[]]
  | 3 => .agg #[.string ⟨#[99, 108, 111, 115, 101, 100]⟩, .func (Fn.func 49) #[] #[], .func (Fn.func 50) #[] #[]]
  | _ => .agg #[.string ⟨#[]⟩, .nilFunc, .nilFunc]
def kEs : Array MapEntry := #[⟨.int .i64 1, kv 1, 0⟩, ⟨.int .i64 2, kv 2, 1⟩, ⟨.int .i64 3, kv 3, 2⟩]
set_option maxRecDepth 100000 in
set_option maxHeartbeats 1000000 in
theorem kinds_is (w : World) : Calls Tryd.prog 29 #[] w fun e w' => e = .returned (.map (some w.heap.size)) ∧ w' = w.alloc (.map kEs 3) := by
  have hmm := @run_makeMap Tryd.prog
  have i1 := ins_new w #[] 0 1 (kv 1) rfl
  have i2 := ins_new w #[⟨.int .i64 1, kv 1, 0⟩] 1 2 (kv 2) rfl
  have i3 := ins_new w #[⟨.int .i64 1, kv 1, 0⟩, ⟨.int .i64 2, kv 2, 1⟩] 2 3 (kv 3) rfl
  simp only [kv, List.push_toArray, List.nil_append, List.cons_append, Nat.reduceAdd] at i1 i2 i3
  unfold kEs kv
  go_enter Tryd.func29, Tryd.ntmps29
  go_wp2_with fail
  go_ret
  exact ⟨rfl, rfl⟩
def isK (n : Int) : Bool := n == 1 || n == 2 || n == 3
theorem Tryd.hv_kind : ∀ w, (zeroValue 65).run Tryd.prog w = .ok (.agg #[.string ⟨#[]⟩, .nilFunc, .nilFunc]) w := by
  intro w
  kernel_rfl
theorem findK (n : Int) : Instr.findNow (.int .i64) (.int .i64 n) kEs.toList 0 = some (if n = 1 then some (0, kv 1) else if n = 2 then some (1, kv 2) else if n = 3 then some (2, kv 3) else none) := by
  simp only [kEs, Instr.findNow, Instr.sameNow, if_true]
  by_cases h1 : n = 1
  · subst h1; simp
  · rw [if_neg h1, show (n == 1) = false from by simpa using h1]
    by_cases h2 : n = 2
    · subst h2; simp
    · rw [if_neg h2, show (n == 2) = false from by simpa using h2]
      by_cases h3 : n = 3
      · subst h3; simp
      · rw [if_neg h3, show (n == 3) = false from by simpa using h3]
theorem kv_other {n : Int} (h1 : n ≠ 1) (h2 : n ≠ 2) (h3 : n ≠ 3) : kv n = .agg #[.string ⟨#[]⟩, .nilFunc, .nilFunc] := by
  unfold kv; split <;> first | contradiction | rfl
theorem look_any {w : World} {r : Nat} (n : Int) (c : Bool) (hb : w.heap[r]? = some (.map kEs 3)) : (Instr.lookup 60 (.map (some r)) (.int .i64 n) c).run Tryd.prog w = .ok (if c then .tuple #[kv n, .bool (isK n)] else kv n) w := by
  have hK := findK n
  have hkv1 := hid (rfl : kv 1 = kv 1)
  generalize kEs = E at *
  have h0 : (Instr.lookup 60 (.map (some r)) (.int .i64 n) c).run Tryd.prog w = (if n = 1 then .ok (if c then .tuple #[kv 1, .bool true] else kv 1) w else if n = 2 then .ok (if c then .tuple #[kv 2, .bool true] else kv 2) w else if n = 3 then .ok (if c then .tuple #[kv 3, .bool true] else kv 3) w else .ok (if c then .tuple #[.agg #[.string ⟨#[]⟩, .nilFunc, .nilFunc], .bool false] else .agg #[.string ⟨#[]⟩, .nilFunc, .nilFunc]) w) := by
    by_cases h1 : n = 1
    · rw [if_pos h1] at hK ⊢
      simp [Instr.lookup, run_underlying Tryd.underlyingKinds, MapKept.run_getObj_map hb, MapKept.run_checkKey Tryd.underlyingInt' (k := .int .i64 n) (show MapKept.IsKey (.int .i64) (.int .i64 n) from rfl), MapKept.run_findKey Tryd.underlyingInt' hK, Result.andThen]
    · rw [if_neg h1] at hK ⊢
      by_cases h2 : n = 2
      · rw [if_pos h2] at hK ⊢
        simp [Instr.lookup, run_underlying Tryd.underlyingKinds, MapKept.run_getObj_map hb, MapKept.run_checkKey Tryd.underlyingInt' (k := .int .i64 n) (show MapKept.IsKey (.int .i64) (.int .i64 n) from rfl), MapKept.run_findKey Tryd.underlyingInt' hK, Result.andThen]
      · rw [if_neg h2] at hK ⊢
        by_cases h3 : n = 3
        · rw [if_pos h3] at hK ⊢
          simp [Instr.lookup, run_underlying Tryd.underlyingKinds, MapKept.run_getObj_map hb, MapKept.run_checkKey Tryd.underlyingInt' (k := .int .i64 n) (show MapKept.IsKey (.int .i64) (.int .i64 n) from rfl), MapKept.run_findKey Tryd.underlyingInt' hK, Result.andThen]
        · rw [if_neg h3] at hK ⊢
          simp [Instr.lookup, run_underlying Tryd.underlyingKinds, MapKept.run_getObj_map hb, MapKept.run_checkKey Tryd.underlyingInt' (k := .int .i64 n) (show MapKept.IsKey (.int .i64) (.int .i64 n) from rfl), MapKept.run_findKey Tryd.underlyingInt' hK, Tryd.hv_kind, Result.andThen]
  rw [h0]
  by_cases h1 : n = 1
  · subst h1; rfl
  · rw [if_neg h1]
    by_cases h2 : n = 2
    · subst h2; rfl
    · rw [if_neg h2]
      by_cases h3 : n = 3
      · subst h3; rfl
      · rw [if_neg h3, kv_other h1 h2 h3, show isK n = false from by simp [isK, h1, h2, h3]]
theorem look_ok {w : World} {r : Nat} (n : Int) (hb : w.heap[r]? = some (.map kEs 3)) : (Instr.lookup 60 (.map (some r)) (.int .i64 n) true).run Tryd.prog w = .ok (.tuple #[kv n, .bool (isK n)]) w := look_any n true hb
theorem look_no {w : World} {r : Nat} (n : Int) (hb : w.heap[r]? = some (.map kEs 3)) : (Instr.lookup 60 (.map (some r)) (.int .i64 n) false).run Tryd.prog w = .ok (kv n) w := look_any n false hb
end Go.Proofs.YtbkheiilcfhfpaaDoor
