/- calendar.from: the iterator over the moments from one on -/
import Derived.Test.YtlikkplipofghaaDoorCalBase
import Derived.Test.YtlikkplipofghaaDoorRangeOwn
import Derived.Shelf.Abstract
import Derived.Shelf.RegionOpen
import Derived.WalkKit
import Derived.OwnWalkIn
import Derived.TacticsInMore
import Derived.LoopNIn
import Derived.LoopIn
namespace Go.Proofs.YtlikkplipofghaaDoor
open Go.RowKit Go.Shelf
attribute [local go_sem] Oper.semAt_some

/-- a moment -/
abbrev Mom := { x : Int // 0 ≤ x ∧ x ≤ 38399 }
def momOf (m : Int) (k : Nat) : Mom := ⟨max 0 (min (m + (k : Int)) 38399), by omega, by omega⟩
theorem momOf_val (m : Int) (k : Nat) (h0 : 0 ≤ m) (h : m + (k : Int) ≤ 38399) : (momOf m k).1 = m + (k : Int) := by
  show max 0 (min (m + (k : Int)) 38399) = _
  omega
def momsL (m : Int) (k : Nat) : List Mom := (List.range k).map (momOf m)
theorem momsL_succ (m : Int) (k : Nat) : momsL m (k + 1) = momsL m k ++ [momOf m k] := by
  unfold momsL; rw [List.range_succ, List.map_append]; rfl
theorem momsL_len (m : Int) (k : Nat) : (momsL m k).length = k := by simp [momsL]

/-- what a round keeps for the iterator: its box -/
def Keep1 (a : Nat) (W W' : World) : Prop := W'.heap[a]? = W.heap[a]?
theorem Keep1.t {a : Nat} {A B C : World} (h : Keep1 a A B) (k : Keep1 a B C) : Keep1 a A C := k.trans h

set_option maxHeartbeats 2000000 in
set_option maxRecDepth 100000 in
theorem from1_box (m : Int) (m0 : 0 ≤ m) (m1 : m ≤ 38399) (gm : Nat) (w : World) (q : Nat) (hq : 1 ≤ q) (bm : Blk w gm 3 [.int .i64 m]) :
    SeqBox Fence.wide q Tryd.prog 33 gm #[.pointer (some ⟨gm, 0, none⟩)] (fun x : Mom => #[.int .i64 x.1]) (Keep1 gm)
      (fun xs => ∃ k : Nat, m + (k : Int) = 38400 ∧ xs = momsL m k) (fun xs => ∃ k : Nat, m + (k : Int) ≤ 38399 ∧ xs = momsL m (k + 1)) 38400 w := by
  intro l J Jx W hB _ hg hY hJ
  have bm' := bm.below hB bm.lt
  clear bm hB
  have HY := hid hY
  have HG := hid hg
  clear hY hg
  refine callsIn_of_wp Tryd.func33 rfl trivial ?_ rfl
  simp only [Tryd.ntmps33, List.size_toArray, List.length_cons, List.length_nil, Nat.reduceAdd, Nat.reduceSub, Array.replicate_succ, Array.replicate_zero, List.push_toArray, List.append_toArray, List.nil_append, List.cons_append]
  gi_wp2
  gi_loopw [] (fun wr => ∃ k : Nat, m + (k : Int) ≤ 38400 ∧ J (momsL m k) wr ∧ Blk wr gm 3 [.int .i64 (m + (k : Int))]) (fun wr => 38400 - (intOf ((wr.cell? ⟨gm, 0, none⟩).getD undef)).toNat)
  case atStart => exact ⟨0, by omega, hJ, by simpa using bm'⟩
  case round =>
    obtain ⟨k, hk, hJs, bmr⟩ := hrel
    have cm := bmr.cell 0
    have fm := bmr.free 0
    by_cases hlt : m + (k : Int) ≤ 38399
    · have HT := hid (momsL_succ m k)
      obtain ⟨fn, tmps, assign, body, hy, hR⟩ := HY.out _ (momOf m k) wr hJs (by rw [momsL_len]; omega)
      rw [momOf_val m k m0 hlt] at hy
      gi_wp2_with fail
      refine hR.mono ?_
      rintro e W' (⟨rfl, hJ', hk'⟩ | ⟨rfl, hJx'⟩)
      · have bm2 : Blk W' gm 3 [.int .i64 (m + (k : Int))] := Eq.trans hk' bmr
        have cm2 := bm2.cell 0
        have fm2 := bm2.free 0
        gi_wp2
        have bm3 := bm2.set 0 (.int .i64 (m + (k : Int) + 1))
        have cm3 := bm3.cell 0
        go_roundw
        case rel =>
          refine ⟨k + 1, by omega, by rw [HT.out]; exact HG.out _ _ _ hJ', ?_⟩
          have e : m + ((k + 1 : Nat) : Int) = m + (k : Int) + 1 := by omega
          rw [e]; exact bm3
        case measure =>
          rw [cm3, cm]
          simp [intOf] <;> omega
      · gi_wp2
        go_end0
        exact ⟨⟨_, rfl⟩, .inr ⟨_, ⟨k, hlt, HT.out.symm⟩, hJx'⟩⟩
    · have HKE := hid (show m + (k : Int) = 38400 by omega)
      have hge : 38400 ≤ m + (k : Int) := by omega
      gi_wp2
      refine ⟨fun f h => (by cases h), ?_⟩
      gi_wp2
      go_end0
      exact ⟨⟨_, rfl⟩, .inl ⟨_, ⟨k, HKE.out, rfl⟩, hJs⟩⟩

/-- from: the iterator's value and its box -/
theorem from_any (m : Int) (w : World) : Calls Tryd.prog 28 #[.int .i64 m] w fun e w' => ∃ gm, e = .returned (.func (.func 33) #[] #[.pointer (some ⟨gm, 0, none⟩)]) ∧
    w.heap.size ≤ gm ∧ Blk w' gm 3 [.int .i64 m] ∧ Below w.heap.size w w' := by
  have hmk : ∀ (fn : Fn) (first cap : Array Value) (w : World), (Instr.makeFunc fn first cap).run Tryd.prog w = .ok (.func fn first cap) w := fun _ _ _ _ => rfl
  go_enter Tryd.func28, Tryd.ntmps28
  go_wp2_with (first | (refine wpl_box rfl 3 (.tmp 0) rfl (.int .i64 m) rfl ?_; intro w1 gs hs0 hs1 hbs hgs))
  go_ret
  exact ⟨gs, rfl, by omega, hbs, grown_below hgs (Nat.le_refl _) (by simp)⟩
end Go.Proofs.YtlikkplipofghaaDoor
