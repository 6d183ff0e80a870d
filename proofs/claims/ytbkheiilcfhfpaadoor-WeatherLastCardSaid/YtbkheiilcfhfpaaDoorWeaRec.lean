/- weather: Parse's deferred closure -/
import Derived.Test.YtbkheiilcfhfpaaDoorWeaMst
import Derived.RegionTactic
import Derived.BigRegion
namespace Go.Proofs.YtbkheiilcfhfpaaDoor
open Go.RowKit

theorem fail_asserts (x n : Int) (w : World) : (Instr.typeAssert (.iface 56 (.agg #[.int .i64 x, .int .i64 n])) 20 56 true).run Tryd.prog w = .ok (.tuple #[.agg #[.int .i64 x, .int .i64 n], .bool true]) w := by kernel_rfl
theorem nil_asserts (w : World) : (Instr.typeAssert .nilIface 20 56 true).run Tryd.prog w = .ok (.tuple #[.agg #[.int .i64 0, .int .i64 0], .bool false]) w := by kernel_rfl
set_option maxHeartbeats 1000000 in
theorem catch_panicking (ob eb ab : Nat) (v0 : Value) (x n e0 n0 : Int) (older : List PanicEntry) (w : World) (ho : Blk w ob 22 [v0]) (he : Blk w eb 27 [.int .i64 e0]) (ha : Blk w ab 3 [.int .i64 n0]) (hoe : ob ≠ eb) (hoa : ob ≠ ab) (hea : eb ≠ ab) :
    CallsD Tryd.prog 26 #[.pointer (some ⟨ob, 0, none⟩), .pointer (some ⟨eb, 0, none⟩), .pointer (some ⟨ab, 0, none⟩)] (.panicking ({ v := failV x n, recovered := false } :: older)) w fun e u' w' =>
      e = .returned (.tuple #[]) ∧ u' = .panicking ({ v := failV x n, recovered := true } :: older) ∧ Blk w' ob 22 [.slice none 0 0] ∧ Blk w' eb 27 [.int .i64 x] ∧ Blk w' ab 3 [.int .i64 n] ∧ Chg (fun k => k = ob ∨ k = eb ∨ k = ab) w w' := by
  have c0 := ho.cell 0
  have c1 := he.cell 0
  have c2 := ha.cell 0
  have f0 := ho.free 0
  have f1 := he.free 0
  have f2 := ha.free 0
  simp only [List.getElem?_cons_zero] at c0 c1 c2
  refine callsD_of_wpS Tryd.func26 rfl fun c₀ cs hu => ?_
  apply wpS_seq
  apply wpS_region
  simp [wpOpsS, go_sem, recoverD, hu, Tryd.ntmps26, Exit.thenS, failV, fail_asserts]
  rw [show Array.replicate 12 undef = #[undef, undef, undef, undef, undef, undef, undef, undef, undef, undef, undef, undef] from rfl]
  simp only [List.setIfInBounds_toArray, List.set_cons_succ, List.set_cons_zero, List.append_toArray, List.cons_append, List.nil_append]
  refine wpS_of_wp ?_
  clear hu c0 c1 c2 f0 f1 f2
  go_wp2_with fail
  have hf := Blk.new w #[.int .i64 x, .int .i64 n] 56
  have hne0 : ob ≠ w.heap.size := by have := ho.lt; omega
  have hne1 : eb ≠ w.heap.size := by have := he.lt; omega
  have hne2 : ab ≠ w.heap.size := by have := ha.lt; omega
  replace ho := ho.alloc (.cells #[.int .i64 x, .int .i64 n] 56)
  replace he := he.alloc (.cells #[.int .i64 x, .int .i64 n] 56)
  replace ha := ha.alloc (.cells #[.int .i64 x, .int .i64 n] 56)
  have hC : Chg (fun k => k = ob ∨ k = eb ∨ k = ab) w (w.alloc (.cells #[.int .i64 x, .int .i64 n] 56)) := (Chg.refl _ w).alloc _
  generalize w.alloc (.cells #[.int .i64 x, .int .i64 n] 56) = W at *
  generalize w.heap.size = fb at *
  have c0 := ho.cell 0
  have c1 := he.cell 0
  have c2 := ha.cell 0
  have f0 := ho.free 0
  have f1 := he.free 0
  have f2 := ha.free 0
  have x0 := hf.cell 0
  have x1 := hf.cell 1
  simp only [List.getElem?_cons_zero, List.getElem?_cons_succ] at c0 c1 c2 x0 x1
  go_region
  exact ⟨rfl, _, rfl, _, results_none rfl _ _ _, rfl, rfl, (((ho.set 0 _).other _ hoe _).other _ hoa _).drew, (((he.other _ hoe.symm _).set 0 _).other _ hea _).drew, (((ha.other _ hoa.symm _).other _ hea.symm _).set 0 _).drew, (((hC.set (.inl rfl) _).set (.inr (.inl rfl)) _).set (.inr (.inr rfl)) _).drew⟩
set_option maxHeartbeats 1000000 in
theorem catch_idle (p q r : Addr) (w : World) :
    CallsD Tryd.prog 26 #[.pointer (some p), .pointer (some q), .pointer (some r)] .returning w fun e u' w' => e = .returned (.tuple #[]) ∧ u' = .returning ∧ Below w.heap.size w w' := by
  refine callsD_of_wpS Tryd.func26 rfl fun c₀ cs hu => ?_
  apply wpS_seq
  apply wpS_region
  simp [wpOpsS, go_sem, recoverD, hu, Tryd.ntmps26, Exit.thenS, nil_asserts]
  rw [show Array.replicate 12 undef = #[undef, undef, undef, undef, undef, undef, undef, undef, undef, undef, undef, undef] from rfl]
  simp only [List.setIfInBounds_toArray, List.set_cons_succ, List.set_cons_zero, List.append_toArray, List.cons_append, List.nil_append]
  refine wpS_of_wp ?_
  go_wp2_with fail
  exact ⟨rfl, _, rfl, _, results_none rfl _ _ _, rfl, hu, below_alloc w _⟩
end Go.Proofs.YtbkheiilcfhfpaaDoor
