/- flow: Parse's deferred closure; the door -/
import Derived.Test.YtogcnmjipfllaaaDoorFloFlw2
import Derived.Defers
import Derived.Recover
namespace Go.Proofs.YtogcnmjipfllaaaDoor
open Go.RowKit

theorem fail_asserts (x n : Int) (w : World) : (Instr.typeAssert (.iface 66 (.agg #[.int .i64 x, .int .i64 n])) 20 66 true).run Tryd.prog w = .ok (.tuple #[.agg #[.int .i64 x, .int .i64 n], .bool true]) w := by kernel_rfl
theorem nil_asserts (w : World) : (Instr.typeAssert .nilIface 20 66 true).run Tryd.prog w = .ok (.tuple #[.agg #[.int .i64 0, .int .i64 0], .bool false]) w := by kernel_rfl
set_option maxHeartbeats 2000000 in
theorem catch_panicking (ob eb ab : Nat) (v0 v1 v2 : Value) (x n e0 n0 : Int) (older : List PanicEntry) (w : World) (ho : Blk w ob 24 [v0, v1, v2]) (he : Blk w eb 28 [.int .i64 e0]) (ha : Blk w ab 3 [.int .i64 n0]) (hoe : ob ≠ eb) (hoa : ob ≠ ab) (hea : eb ≠ ab) :
    CallsD Tryd.prog 25 #[.pointer (some ⟨ob, 0, none⟩), .pointer (some ⟨eb, 0, none⟩), .pointer (some ⟨ab, 0, none⟩)] (.panicking ({ v := failV x n, recovered := false } :: older)) w fun e u' w' =>
      e = .returned (.tuple #[]) ∧ u' = .panicking ({ v := failV x n, recovered := true } :: older) ∧ Blk w' ob 24 [.string ⟨#[]⟩, .int .i64 0, .slice none 0 0] ∧ Blk w' eb 28 [.int .i64 x] ∧ Blk w' ab 3 [.int .i64 n] ∧ Chg (fun k => k = ob ∨ k = eb ∨ k = ab) w w' := by
  have c0 := ho.cell 0
  have c1 := he.cell 0
  have c2 := ha.cell 0
  have f0 := ho.free 0
  have f1 := he.free 0
  have f2 := ha.free 0
  simp only [List.getElem?_cons_zero] at c0 c1 c2
  refine callsD_of_wpS Tryd.func25 rfl fun c₀ cs hu => ?_
  apply wpS_seq
  apply wpS_region
  simp [wpOpsS, go_sem, recoverD, hu, Tryd.ntmps25, Exit.thenS, failV, fail_asserts]
  rw [show Array.replicate 13 undef = #[undef, undef, undef, undef, undef, undef, undef, undef, undef, undef, undef, undef, undef] from rfl]
  simp only [List.setIfInBounds_toArray, List.set_cons_succ, List.set_cons_zero, List.append_toArray, List.cons_append, List.nil_append]
  refine wpS_of_wp ?_
  clear hu c0 c1 c2 f0 f1 f2
  go_wp2_with fail
  have hf := Blk.new w #[.int .i64 x, .int .i64 n] 66
  have hne0 : ob ≠ w.heap.size := by have := ho.lt; omega
  have hne1 : eb ≠ w.heap.size := by have := he.lt; omega
  have hne2 : ab ≠ w.heap.size := by have := ha.lt; omega
  replace ho := ho.alloc (.cells #[.int .i64 x, .int .i64 n] 66)
  replace he := he.alloc (.cells #[.int .i64 x, .int .i64 n] 66)
  replace ha := ha.alloc (.cells #[.int .i64 x, .int .i64 n] 66)
  have hC : Chg (fun k => k = ob ∨ k = eb ∨ k = ab) w (w.alloc (.cells #[.int .i64 x, .int .i64 n] 66)) := (Chg.refl _ w).alloc _
  generalize w.alloc (.cells #[.int .i64 x, .int .i64 n] 66) = W at *
  generalize w.heap.size = fb at *
  have c0 := ho.cell 0
  have c01 := ho.cell 1
  have c02 := ho.cell 2
  have c1 := he.cell 0
  have c2 := ha.cell 0
  have f0 := ho.free 0
  have f01 := ho.free 1
  have f02 := ho.free 2
  have f1 := he.free 0
  have f2 := ha.free 0
  have x0 := hf.cell 0
  have x1 := hf.cell 1
  simp only [List.getElem?_cons_zero, List.getElem?_cons_succ] at c0 c01 c02 c1 c2 x0 x1
  go_region
  exact ⟨rfl, _, rfl, _, results_none rfl _ _ _, rfl, rfl, (((((ho.set 0 _).set 1 _).set 2 _).other _ hoe _).other _ hoa _).drew, (((((he.other _ hoe.symm _).other _ hoe.symm _).other _ hoe.symm _).set 0 _).other _ hea _).drew, (((((ha.other _ hoa.symm _).other _ hoa.symm _).other _ hoa.symm _).other _ hea.symm _).set 0 _).drew, (((((hC.set (.inl rfl) _).set (.inl rfl) _).set (.inl rfl) _).set (.inr (.inl rfl)) _).set (.inr (.inr rfl)) _).drew⟩
set_option maxHeartbeats 1000000 in
theorem catch_idle (p q r : Addr) (w : World) :
    CallsD Tryd.prog 25 #[.pointer (some p), .pointer (some q), .pointer (some r)] .returning w fun e u' w' => e = .returned (.tuple #[]) ∧ u' = .returning ∧ Below w.heap.size w w' := by
  refine callsD_of_wpS Tryd.func25 rfl fun c₀ cs hu => ?_
  apply wpS_seq
  apply wpS_region
  simp [wpOpsS, go_sem, recoverD, hu, Tryd.ntmps25, Exit.thenS, nil_asserts]
  rw [show Array.replicate 13 undef = #[undef, undef, undef, undef, undef, undef, undef, undef, undef, undef, undef, undef, undef] from rfl]
  simp only [List.setIfInBounds_toArray, List.set_cons_succ, List.set_cons_zero, List.append_toArray, List.cons_append, List.nil_append]
  refine wpS_of_wp ?_
  go_wp2_with fail
  exact ⟨rfl, _, rfl, _, results_none rfl _ _ _, rfl, hu, below_alloc w _⟩

theorem results_row_cells {P : Program} {fn : Func} {p q r : Tmp} {T U V : TypeId} (h : fn.results = #[.cell p T, .cell q U, .cell r V]) (tmps : Array Value) (w : World) (b c d : Nat) (cs : Array Value) (y z : Value) (D : TypeDesc)
    (hp : tmps[p]?.getD undef = .pointer (some ⟨b, 0, none⟩)) (hq : tmps[q]?.getD undef = .pointer (some ⟨c, 0, none⟩)) (hr : tmps[r]?.getD undef = .pointer (some ⟨d, 0, none⟩))
    (hg : w.heap[b]? = some (.cells cs T (0, 0))) (hu : P.underlying T = some D) (hd : (match D with | .struct _ | .array _ _ => true | _ => false) = true) (hi : (P.info? T).map (·.size) = some cs.size)
    (h2 : (loadVar U ⟨c, 0, none⟩).run P w = .ok y w) (h3 : (loadVar V ⟨d, 0, none⟩).run P w = .ok z w) :
    (results fn tmps).run P w = .ok (.tuple #[.agg cs, y, z]) w := by
  simp only [results, h]
  simp [Sem.run_bind, Result.andThen, hp, hq, hr, asAddr, run_loadVar_row w b T T cs (0, 0) D hg hu hd hi, h2, h3]
def FParPost (w0 : World) (l : List UInt8) (e : Ending) (w' : World) : Prop :=
  ∃ sv, e = .returned (.tuple #[.agg #[.string (parF l).1.name, .int .i64 (parF l).1.ver, sv], .int .i64 (parF l).2.1, .int .i64 (parF l).2.2]) ∧ MineN 4 w0.heap.size w0 w' 32 sv (parF l).1.steps.length (stpsCells (parF l).1.steps)
theorem door_bad {tmps : Array Value} {w0 w : World} {l : List UInt8} {ob eb ab : Nat} {v0 v1 v2 : Value} {x n : Int} (hR : parF l = (flw0, x, n))
    (h2 : tmps[2]?.getD undef = .pointer (some ⟨ob, 0, none⟩)) (h3 : tmps[3]?.getD undef = .pointer (some ⟨eb, 0, none⟩)) (h4 : tmps[4]?.getD undef = .pointer (some ⟨ab, 0, none⟩))
    (ho : Blk w ob 24 [v0, v1, v2]) (he : ∃ e, Blk w eb 28 [.int .i64 e]) (ha : ∃ n, Blk w ab 3 [.int .i64 n]) (n1 : ob ≠ eb) (n2 : ob ≠ ab) (n3 : eb ≠ ab)
    (o1 : w0.heap.size ≤ ob) (o2 : w0.heap.size ≤ eb) (o3 : w0.heap.size ≤ ab) (hB : Below w0.heap.size w0 w) :
    Leaves Tryd.prog Tryd.f13 tmps (FParPost w0 l) [{ target := .fn (Fn.func 25) #[.pointer (some ⟨ob, 0, none⟩), .pointer (some ⟨eb, 0, none⟩), .pointer (some ⟨ab, 0, none⟩)], args := #[] }] (.panicking [{ v := failV x n, recovered := false }]) w := by
  obtain ⟨e0, he⟩ := he
  obtain ⟨a0, ha⟩ := ha
  refine leaves_cons (f := 25) (args := #[.pointer (some ⟨ob, 0, none⟩), .pointer (some ⟨eb, 0, none⟩), .pointer (some ⟨ab, 0, none⟩)]) (by simp) (by simp [go_sem]) ?_
  refine (catch_panicking ob eb ab v0 v1 v2 x n e0 a0 [] w ho he ha n1 n2 n3).mono ?_
  rintro e u' w' ⟨rfl, rfl, k1, k2, k3, hC⟩
  have c2 := k2.cell 0
  have c3 := k3.cell 0
  simp only [List.getElem?_cons_zero] at c2 c3
  refine ⟨_, results_row_cells rfl _ _ ob eb ab #[.string ⟨#[]⟩, .int .i64 0, .slice none 0 0] (.int .i64 x) (.int .i64 n) _ h2 h3 h4 k1 Tryd.underlying24 rfl (by kernel_rfl) (by simp [go_sem, c2]) (by simp [go_sem, c3]), ?_⟩
  refine ⟨_, by rw [hR]; rfl, ?_⟩
  rw [hR]
  exact MineN.start (hB.trans (hC.toBelow hB.size (by rintro k (rfl | rfl | rfl) <;> assumption))) (Nat.le_trans hB.size hC.size)
theorem door_ok {tmps : Array Value} {w0 w : World} {l : List UInt8} {ob eb ab : Nat} {f : Flw} {sv : Value} (hR : parF l = (f, 0, 0))
    (h2 : tmps[2]?.getD undef = .pointer (some ⟨ob, 0, none⟩)) (h3 : tmps[3]?.getD undef = .pointer (some ⟨eb, 0, none⟩)) (h4 : tmps[4]?.getD undef = .pointer (some ⟨ab, 0, none⟩))
    (ho : Blk w ob 24 [.string f.name, .int .i64 f.ver, sv]) (he : Blk w eb 28 [.int .i64 0]) (ha : Blk w ab 3 [.int .i64 0])
    (hB : Below w0.heap.size w0 w) {B : Nat} (hm : w.ownsRow B 32 4 sv f.steps.length (stpsCells f.steps)) (hB2 : w0.heap.size ≤ B) :
    Leaves Tryd.prog Tryd.f13 tmps (FParPost w0 l) [{ target := .fn (Fn.func 25) #[.pointer (some ⟨ob, 0, none⟩), .pointer (some ⟨eb, 0, none⟩), .pointer (some ⟨ab, 0, none⟩)], args := #[] }] .returning w := by
  refine leaves_cons (f := 25) (args := #[.pointer (some ⟨ob, 0, none⟩), .pointer (some ⟨eb, 0, none⟩), .pointer (some ⟨ab, 0, none⟩)]) (by simp) (by simp [go_sem]) ?_
  refine (catch_idle _ _ _ w).mono ?_
  rintro e u' w' ⟨rfl, rfl, hB1⟩
  have c2 := (he.below hB1 he.lt).cell 0
  have c3 := (ha.below hB1 ha.lt).cell 0
  simp only [List.getElem?_cons_zero] at c2 c3
  refine ⟨_, results_row_cells rfl _ _ ob eb ab #[.string f.name, .int .i64 f.ver, sv] (.int .i64 0) (.int .i64 0) _ h2 h3 h4 (ho.below hB1 ho.lt) Tryd.underlying24 rfl (by kernel_rfl) (by simp [go_sem, c2]) (by simp [go_sem, c3]), ?_⟩
  refine ⟨_, by rw [hR], ?_⟩
  rw [hR]
  exact ⟨ownsRow_monoN (ownsRow_chgN hm (Chg.ofBelow (S := fun _ => False) hB1) (fun _ _ h => h)) hB2, hB.trans (hB1.mono hB.size), Nat.le_trans hB.size hB1.size⟩
end Go.Proofs.YtogcnmjipfllaaaDoor
