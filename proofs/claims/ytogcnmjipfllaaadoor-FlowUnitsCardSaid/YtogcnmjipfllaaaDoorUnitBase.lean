/- unit: exponents, products -/
import Derived.Test.YtogcnmjipfllaaaDoorProg
import Derived.Test.YtogcnmjipfllaaaDoorLib2
import Derived.Test.YtogcnmjipfllaaaDoorLibQ
import Derived.Laws.Rows
import Derived.Laws.CopyOwn
namespace Go.Proofs.YtogcnmjipfllaaaDoor
open Go.RowKit

/-- results, the first a struct in a block -/
theorem results_row2 {P : Program} {fn : Func} {p q : Tmp} {ty : TypeId} (h : fn.results = #[.cell p ty, .tmp q]) (tmps : Array Value) (w : World) (g : Nat) (t : TypeId) (cs : Array Value) (d : TypeDesc)
    (hp : tmps.getD p undef = .pointer (some ⟨g, 0, none⟩)) (hg : w.heap[g]? = some (.cells cs t (0, 0)))
    (hu : P.underlying ty = some d) (hd : (match d with | .struct _ | .array _ _ => true | _ => false) = true) (hi : (P.info? ty).map (·.size) = some cs.size) :
    (results fn tmps).run P w = .ok (.tuple #[.agg cs, tmps.getD q undef]) w := by
  have hp' : tmps[p]?.getD undef = .pointer (some ⟨g, 0, none⟩) := by simpa using hp
  simp [results, h, hp', asAddr, run_loadVar_row w g t ty cs (0, 0) d hg hu hd hi]

structure U where
  a : Int
  b : Int
  c : Int
  deriving DecidableEq
def uV (u : U) : Value := .agg #[.int .i64 u.a, .int .i64 u.b, .int .i64 u.c]
def u0 : U := ⟨0, 0, 0⟩
def inB (x : Int) : Bool := decide (-8 ≤ x ∧ x ≤ 8)
def vB (u : U) : Bool := inB u.a && inB u.b && inB u.c

set_option maxHeartbeats 1000000 in
theorem exps_any (u : U) (w : World) : Calls Tryd.prog 21 #[uV u] w fun e w' => e = .returned (uV u) ∧ Below w.heap.size w w' := by
  obtain ⟨a, b, c⟩ := u
  unfold uV
  dsimp only
  go_enter Tryd.func21, Tryd.ntmps21
  go_wp2_with fail
  refine bodyPost_ret (results_cell_row rfl _ _ (w.heap.size + 1) 58 #[.int .i64 a, .int .i64 b, .int .i64 c] (0, 0) _ rfl (heap_alloc2_new w _ _) Tryd.underlying58 rfl (by kernel_rfl)) rfl ?_
  exact ⟨rfl, (below_alloc w _).alloc (by simp) _⟩

theorem idx30 (a b c : Value) (w : World) : (Instr.index 58 (.agg #[a, b, c]) (.int .i64 0)).run Tryd.prog w = .ok a w := by kernel_rfl
theorem idx31 (a b c : Value) (w : World) : (Instr.index 58 (.agg #[a, b, c]) (.int .i64 1)).run Tryd.prog w = .ok b w := by kernel_rfl
theorem idx32 (a b c : Value) (w : World) : (Instr.index 58 (.agg #[a, b, c]) (.int .i64 2)).run Tryd.prog w = .ok c w := by kernel_rfl
theorem inB_iff (x : Int) : inB x = true ↔ -8 ≤ x ∧ x ≤ 8 := by unfold inB; simp
theorem vB_iff (u : U) : vB u = true ↔ (-8 ≤ u.a ∧ u.a ≤ 8) ∧ (-8 ≤ u.b ∧ u.b ≤ 8) ∧ (-8 ≤ u.c ∧ u.c ≤ 8) := by unfold vB; simp [inB_iff, and_assoc]

set_option maxHeartbeats 2000000 in
set_option maxRecDepth 100000 in
theorem of_any (u : U) (w : World) : Calls Tryd.prog 22 #[uV u] w fun e w' => e = .returned (.tuple #[uV (if vB u = true then u else u0), .bool (vB u)]) ∧ Below w.heap.size w w' := by
  obtain ⟨a, b, c⟩ := u
  have hpost : uV (if vB ⟨a, b, c⟩ = true then ⟨a, b, c⟩ else u0) = if vB ⟨a, b, c⟩ = true then .agg #[.int .i64 a, .int .i64 b, .int .i64 c] else .agg #[.int .i64 0, .int .i64 0, .int .i64 0] := by split <;> rfl
  rw [hpost]
  clear hpost
  have HX : ∃ X B, Hid ((if vB ⟨a, b, c⟩ = true then Value.agg #[.int .i64 a, .int .i64 b, .int .i64 c] else .agg #[.int .i64 0, .int .i64 0, .int .i64 0]) = X ∧ vB ⟨a, b, c⟩ = B) := ⟨_, _, hid ⟨rfl, rfl⟩⟩
  obtain ⟨X, B, HX⟩ := HX
  rw [HX.out.1, HX.out.2]
  unfold uV
  dsimp only
  go_enter Tryd.func22, Tryd.ntmps22
  go_wp2_with fail
  obtain ⟨w0, hw0⟩ : ∃ w0 : World, w0 = (w.alloc (.cells #[.int .i64 a, .int .i64 b, .int .i64 c] 58)).alloc (.cells #[.int .i64 0, .int .i64 0, .int .i64 0] 34) := ⟨_, rfl⟩
  have hn : Blk w0 w.heap.size 58 [.int .i64 a, .int .i64 b, .int .i64 c] := by subst hw0; exact (Blk.new w _ _).alloc _
  have hz : Blk w0 (w.heap.size + 1) 34 [.int .i64 0, .int .i64 0, .int .i64 0] := by
    subst hw0
    have := Blk.new (w.alloc (.cells #[.int .i64 a, .int .i64 b, .int .i64 c] 58)) #[.int .i64 0, .int .i64 0, .int .i64 0] 34
    rw [World.size_alloc] at this
    exact this
  have hB0 : Below w.heap.size w w0 := by subst hw0; exact (below_alloc w _).alloc (by simp) _
  rw [← hw0]
  clear hw0
  have c0 := hn.cell 0
  have c1 := hn.cell 1
  have c2 := hn.cell 2
  simp only [List.getElem?_cons_succ, List.getElem?_cons_zero] at c0 c1 c2
  have hx0 := idx30 (.int .i64 a) (.int .i64 b) (.int .i64 c)
  have hx1 := idx31 (.int .i64 a) (.int .i64 b) (.int .i64 c)
  have hx2 := idx32 (.int .i64 a) (.int .i64 b) (.int .i64 c)
  go_loopw [7] (fun s7 wr => wr = w0 ∧ (s7 = .int .i64 0 ∨ (s7 = .int .i64 1 ∧ -8 ≤ a ∧ a ≤ 8) ∨ (s7 = .int .i64 2 ∧ (-8 ≤ a ∧ a ≤ 8) ∧ -8 ≤ b ∧ b ≤ 8) ∨ (s7 = .int .i64 3 ∧ (-8 ≤ a ∧ a ≤ 8) ∧ (-8 ≤ b ∧ b ≤ 8) ∧ -8 ≤ c ∧ c ≤ 8))) (fun s7 _ => 3 - (intOf s7).toNat)
  case atStart => exact ⟨rfl, .inl rfl⟩
  case round =>
    obtain ⟨rfl, rfl | ⟨rfl, ha1, ha2⟩ | ⟨rfl, ⟨ha1, ha2⟩, hb1, hb2⟩ | ⟨rfl, ⟨ha1, ha2⟩, ⟨hb1, hb2⟩, hc1, hc2⟩⟩ := hrel
    · by_cases h1 : a < -8
      · have hv : vB ⟨a, b, c⟩ = false := (by rw [Bool.eq_false_iff]; intro h; have := (vB_iff _).1 h; dsimp only at this; omega)  ;have HVB := hid hv  ;clear hv  ;go_wp2_with (refine wpList_store_row rfl 34 _ _ rfl (w.heap.size + 1) _ rfl rfl 34 _ hz (by kernel_rfl) rfl (by simp [Value.oneCell']) ?_)  ;refine bodyPost_ret (results_row2 rfl _ _ (w.heap.size + 1) 34 _ _ rfl (setRow_heap _ _ _ _ _ _ hz) Tryd.underlying34 rfl (by kernel_rfl)) rfl ?_  ;rw [← HX.out.1, ← HX.out.2, HVB.out]  ;exact ⟨rfl, below_setRow hB0 (by omega) _⟩
      · by_cases h2 : 8 < a
        · have hv : vB ⟨a, b, c⟩ = false := (by rw [Bool.eq_false_iff]; intro h; have := (vB_iff _).1 h; dsimp only at this; omega)  ;have HVB := hid hv  ;clear hv  ;go_wp2_with (refine wpList_store_row rfl 34 _ _ rfl (w.heap.size + 1) _ rfl rfl 34 _ hz (by kernel_rfl) rfl (by simp [Value.oneCell']) ?_)  ;refine bodyPost_ret (results_row2 rfl _ _ (w.heap.size + 1) 34 _ _ rfl (setRow_heap _ _ _ _ _ _ hz) Tryd.underlying34 rfl (by kernel_rfl)) rfl ?_  ;rw [← HX.out.1, ← HX.out.2, HVB.out]  ;exact ⟨rfl, below_setRow hB0 (by omega) _⟩
        · go_wp2_with fail
          go_roundw
          case rel => exact ⟨trivial, .inr (.inl ⟨rfl, by omega, by omega⟩)⟩
          case measure => simp [intOf]
    · by_cases h1 : b < -8
      · have hv : vB ⟨a, b, c⟩ = false := (by rw [Bool.eq_false_iff]; intro h; have := (vB_iff _).1 h; dsimp only at this; omega)  ;have HVB := hid hv  ;clear hv  ;go_wp2_with (refine wpList_store_row rfl 34 _ _ rfl (w.heap.size + 1) _ rfl rfl 34 _ hz (by kernel_rfl) rfl (by simp [Value.oneCell']) ?_)  ;refine bodyPost_ret (results_row2 rfl _ _ (w.heap.size + 1) 34 _ _ rfl (setRow_heap _ _ _ _ _ _ hz) Tryd.underlying34 rfl (by kernel_rfl)) rfl ?_  ;rw [← HX.out.1, ← HX.out.2, HVB.out]  ;exact ⟨rfl, below_setRow hB0 (by omega) _⟩
      · by_cases h2 : 8 < b
        · have hv : vB ⟨a, b, c⟩ = false := (by rw [Bool.eq_false_iff]; intro h; have := (vB_iff _).1 h; dsimp only at this; omega)  ;have HVB := hid hv  ;clear hv  ;go_wp2_with (refine wpList_store_row rfl 34 _ _ rfl (w.heap.size + 1) _ rfl rfl 34 _ hz (by kernel_rfl) rfl (by simp [Value.oneCell']) ?_)  ;refine bodyPost_ret (results_row2 rfl _ _ (w.heap.size + 1) 34 _ _ rfl (setRow_heap _ _ _ _ _ _ hz) Tryd.underlying34 rfl (by kernel_rfl)) rfl ?_  ;rw [← HX.out.1, ← HX.out.2, HVB.out]  ;exact ⟨rfl, below_setRow hB0 (by omega) _⟩
        · go_wp2_with fail
          go_roundw
          case rel => exact ⟨trivial, .inr (.inr (.inl ⟨rfl, ⟨by omega, by omega⟩, by omega, by omega⟩))⟩
          case measure => simp [intOf]
    · by_cases h1 : c < -8
      · have hv : vB ⟨a, b, c⟩ = false := (by rw [Bool.eq_false_iff]; intro h; have := (vB_iff _).1 h; dsimp only at this; omega)  ;have HVB := hid hv  ;clear hv  ;go_wp2_with (refine wpList_store_row rfl 34 _ _ rfl (w.heap.size + 1) _ rfl rfl 34 _ hz (by kernel_rfl) rfl (by simp [Value.oneCell']) ?_)  ;refine bodyPost_ret (results_row2 rfl _ _ (w.heap.size + 1) 34 _ _ rfl (setRow_heap _ _ _ _ _ _ hz) Tryd.underlying34 rfl (by kernel_rfl)) rfl ?_  ;rw [← HX.out.1, ← HX.out.2, HVB.out]  ;exact ⟨rfl, below_setRow hB0 (by omega) _⟩
      · by_cases h2 : 8 < c
        · have hv : vB ⟨a, b, c⟩ = false := (by rw [Bool.eq_false_iff]; intro h; have := (vB_iff _).1 h; dsimp only at this; omega)  ;have HVB := hid hv  ;clear hv  ;go_wp2_with (refine wpList_store_row rfl 34 _ _ rfl (w.heap.size + 1) _ rfl rfl 34 _ hz (by kernel_rfl) rfl (by simp [Value.oneCell']) ?_)  ;refine bodyPost_ret (results_row2 rfl _ _ (w.heap.size + 1) 34 _ _ rfl (setRow_heap _ _ _ _ _ _ hz) Tryd.underlying34 rfl (by kernel_rfl)) rfl ?_  ;rw [← HX.out.1, ← HX.out.2, HVB.out]  ;exact ⟨rfl, below_setRow hB0 (by omega) _⟩
        · go_wp2_with fail
          go_roundw
          case rel => exact ⟨trivial, .inr (.inr (.inr ⟨rfl, ⟨by omega, by omega⟩, ⟨by omega, by omega⟩, by omega, by omega⟩))⟩
          case measure => simp [intOf]
    · have HVB := hid ((vB_iff ⟨a, b, c⟩).2 ⟨⟨ha1, ha2⟩, ⟨hb1, hb2⟩, hc1, hc2⟩)
      go_wp2_with (refine wpList_store_row rfl 34 _ _ rfl (w.heap.size + 1) _ rfl rfl 34 _ hz (by kernel_rfl) rfl (by simp [Value.oneCell']) ?_)
      refine bodyPost_ret (results_row2 rfl _ _ (w.heap.size + 1) 34 _ _ rfl (setRow_heap _ _ _ _ _ _ hz) Tryd.underlying34 rfl (by kernel_rfl)) rfl ?_
      rw [← HX.out.1, ← HX.out.2, HVB.out]
      exact ⟨rfl, below_setRow hB0 (by omega) _⟩
end Go.Proofs.YtogcnmjipfllaaaDoor
