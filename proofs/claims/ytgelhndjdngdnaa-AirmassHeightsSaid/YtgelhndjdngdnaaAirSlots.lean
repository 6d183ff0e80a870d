/- airmass.slots: the iterator over the slots of a night -/
import Derived.Test.YtgelhndjdngdnaaAirBase
import Derived.RangeFuncNested
import Derived.RangeFuncBound
import Derived.RangeFuncCalls
import Derived.RangeFuncLeaves
import Derived.Shelf.Abstract
import Derived.Shelf.RegionOpen
import Derived.WalkKit
import Derived.OwnWalkIn
import Derived.TacticsInMore
import Derived.LoopNIn
import Derived.LoopIn
namespace Go.Proofs.Ytgelhndjdngdnaa
open Go.RowKit Go.Shelf
attribute [local go_sem] Oper.semAt_some

/-- what a round keeps for the iterator: its three boxes -/
def Keep3 (a b c : Nat) (W W' : World) : Prop := W'.heap[a]? = W.heap[a]? ∧ W'.heap[b]? = W.heap[b]? ∧ W'.heap[c]? = W.heap[c]?
theorem Keep3.t {a b c : Nat} {A B C : World} (h : Keep3 a b c A B) (k : Keep3 a b c B C) : Keep3 a b c A C := ⟨k.1.trans h.1, k.2.1.trans h.2.1, k.2.2.trans h.2.2⟩

/-- a slot of a night, with a height -/
abbrev Slot := { x : Int × Int // 0 ≤ x.1 ∧ x.1 < 96 }
def slotOf (s t n : Int) (k : Nat) : Slot := ⟨(((min k 95 : Nat) : Int), heightF s t (n * 96 + ((min k 95 : Nat) : Int))), by constructor <;> simp <;> omega⟩
theorem slotOf_val (s t n : Int) (k : Nat) (h : k < 96) : (slotOf s t n k).1 = ((k : Int), heightF s t (n * 96 + (k : Int))) := by
  show (((min k 95 : Nat) : Int), heightF s t (n * 96 + ((min k 95 : Nat) : Int))) = _
  rw [show min k 95 = k by omega]
def slotsL (s t n : Int) : List Slot := (List.range 96).map (slotOf s t n)
theorem slots_take (s t n : Int) (k : Nat) : (List.range (k + 1)).map (slotOf s t n) = (List.range k).map (slotOf s t n) ++ [slotOf s t n k] := by
  rw [List.range_succ, List.map_append]; rfl

set_option maxHeartbeats 2000000 in
set_option maxRecDepth 100000 in
theorem slots1_stops (s t nn : Int) (hex : 0 ≤ s ∧ s < 16 ∧ 0 ≤ t ∧ t < 512) (hn : 0 ≤ nn ∧ nn < 400) (gn gs gt : Nat) (w : World) (m : Nat)
    (hm : 3 ≤ m) (bn : Blk w gn 3 [.int .i64 nn]) (bs : Blk w gs 3 [.int .i64 s]) (bt : Blk w gt 3 [.int .i64 t]) :
    SeqStopsK Fence.wide m Try.prog 35 #[.pointer (some ⟨gn, 0, none⟩), .pointer (some ⟨gs, 0, none⟩), .pointer (some ⟨gt, 0, none⟩)] (fun x : Slot => #[.int .i64 x.1.1, .int .i64 x.1.2]) (Keep3 gn gs gt)
      (fun xs => xs = slotsL s t nn) (fun _ => True) 96 w := by
  intro l J Jx W hB _ _ hY hJ
  have bn' := bn.below hB bn.lt
  have bs' := bs.below hB bs.lt
  have bt' := bt.below hB bt.lt
  clear bn bs bt hB
  have HY := hid hY
  clear hY
  have HEX := hid hex
  clear hex
  obtain ⟨n0, n1⟩ := hn
  refine callsIn_of_wp Try.func35 rfl trivial ?_ rfl
  simp only [Try.ntmps35, List.size_toArray, List.length_cons, List.length_nil, Nat.reduceAdd, Nat.reduceSub, Array.replicate_succ, Array.replicate_zero, List.push_toArray, List.append_toArray, List.nil_append, List.cons_append]
  gi_wp2
  gi_loopw [10] (fun s10 wr => ∃ k : Nat, s10 = .int .i64 k ∧ k ≤ 96 ∧ J ((List.range k).map (slotOf s t nn)) wr ∧ Keep3 gn gs gt W wr) (fun s10 _ => 96 - (intOf s10).toNat)
  case atStart => exact ⟨0, rfl, by omega, hJ, rfl, rfl, rfl⟩
  case round =>
    obtain ⟨k, rfl, hk, hJs, hkp⟩ := hrel
    have bnr : Blk wr gn 3 [.int .i64 nn] := hkp.1.trans bn'
    have bsr : Blk wr gs 3 [.int .i64 s] := hkp.2.1.trans bs'
    have btr : Blk wr gt 3 [.int .i64 t] := hkp.2.2.trans bt'
    have cn := bnr.cell 0
    have cs := bsr.cell 0
    have ct := btr.cell 0
    by_cases hlt : k < 96
    · have hI1 : (k : Int) < 96 := by omega
      have HT := hid (slots_take s t nn k)
      obtain ⟨fn, tmps, assign, body, hy, hR⟩ := HY.out _ (slotOf s t nn k) wr hJs (by simp; omega)
      rw [slotOf_val s t nn k hlt] at hy
      dsimp only at hy
      have HM := hid (fun w => (callsIn_wide (n := m - 1)).2 (moment_yes nn (k : Int) w ⟨n0, n1⟩ ⟨by omega, by omega⟩))
      have HH := hid (fun w => (callsIn_wide (n := m - 1)).2 (height_yes s t (nn * 96 + (k : Int)) w HEX.out (by omega) (by omega)))
      generalize heightF s t (nn * 96 + (k : Int)) = h at *
      gi_wp2_with (first | (refine ⟨trivial, fun _ => (by omega), ?_⟩; gi_at_call 36; refine (HM.out _).mono ?_; rintro e w' ⟨rfl, rfl⟩) | (refine ⟨trivial, fun _ => (by omega), ?_⟩; gi_at_call 13; refine (HH.out _).mono ?_; rintro e w' ⟨rfl, rfl⟩))
      refine ⟨fun _ => (by omega), hR.mono ?_⟩
      rintro e W' (⟨rfl, hJ', hk'⟩ | ⟨rfl, hJx'⟩)
      · gi_wp2
        go_roundw
        case rel => exact ⟨k + 1, by go_num, by omega, by rw [HT.out]; exact hJ', hkp.t hk'⟩
        case measure => simp [intOf] <;> omega
      · gi_wp2
        refine bodyPost_ret (results_none rfl _ _ _) rfl ?_
        exact ⟨⟨_, rfl⟩, .inr ⟨_, trivial, hJx'⟩⟩
    · obtain rfl : k = 96 := by omega
      gi_wp2
      go_end0
      exact ⟨⟨_, rfl⟩, .inl ⟨_, rfl, hJs⟩⟩

/-- slots: the iterator's value and its three boxes -/
theorem slots_any (s t nn : Int) (w : World) : Calls Try.prog 33 #[.int .i64 s, .int .i64 t, .int .i64 nn] w fun e w' => ∃ gn gs gt, e = .returned (.func (.func 35) #[] #[.pointer (some ⟨gn, 0, none⟩), .pointer (some ⟨gs, 0, none⟩), .pointer (some ⟨gt, 0, none⟩)]) ∧
    w.heap.size ≤ gn ∧ w.heap.size ≤ gs ∧ w.heap.size ≤ gt ∧ Blk w' gn 3 [.int .i64 nn] ∧ Blk w' gs 3 [.int .i64 s] ∧ Blk w' gt 3 [.int .i64 t] ∧ Below w.heap.size w w' := by
  have hmk : ∀ (fn : Fn) (first cap : Array Value) (w : World), (Instr.makeFunc fn first cap).run Try.prog w = .ok (.func fn first cap) w := fun _ _ _ _ => rfl
  go_enter Try.func33, Try.ntmps33
  go_wp2_with (first
    | (refine wpl_box rfl 3 (.tmp 0) rfl (.int .i64 s) rfl ?_; intro w1 gs hs0 hs1 hbs hgs)
    | (refine wpl_box rfl 3 (.tmp 1) rfl (.int .i64 t) rfl ?_; intro w2 gt ht0 ht1 hbt hgt)
    | (refine wpl_box rfl 3 (.tmp 2) rfl (.int .i64 nn) rfl ?_; intro w3 gn hn0 hn1 hbn hgn))
  go_ret
  exact ⟨gn, gs, gt, rfl, by omega, by omega, by omega, hbn, ((hbs.grown hgt (by simp)).grown hgn (by simp)), hbt.grown hgn (by simp), grown_below ((hgs.trans hgt).trans hgn) (Nat.le_refl _) (by simp)⟩
end Go.Proofs.Ytgelhndjdngdnaa
