/- lexer: the table of classes -/
import Derived.Test.YtogcnmjipfllaaaDoorLexPure
import Derived.Test.YtogcnmjipfllaaaDoorLibQ
import Derived.Test.YtogcnmjipfllaaaDoorProg
import Derived.Laws.Rows
import Derived.Laws.CopyOwn
namespace Go.Proofs.YtogcnmjipfllaaaDoor
open Go.RowKit

def setAll (L : List Value) (s : List UInt8) (c : Int) : List Value := s.foldl (fun L b => L.set b.toNat (.int .i64 c)) L
theorem setAll_len (L : List Value) (s : List UInt8) (c : Int) : (setAll L s c).length = L.length := by
  unfold setAll
  induction s generalizing L with
  | nil => rfl
  | cons b s ih => simp only [List.foldl_cons]; rw [ih]; simp
theorem setAll_snoc (L : List Value) (s : List UInt8) (c : Int) (k : Nat) (b : UInt8) (h : s[k]? = some b) : setAll L (s.take (k + 1)) c = (setAll L (s.take k) c).set b.toNat (.int .i64 c) := by
  rw [List.take_add_one, h]
  simp [setAll]

theorem set_any (s : ByteArray) (c : Int) (bo : Nat) (L : List Value) (w : World) (hb : Blk w bo 83 L) (hL : L.length = 256) (hs : s.size ≤ 1000) :
    Calls Tryd.prog 47 #[.string s, .int .i64 c, .pointer (some ⟨bo, 0, none⟩)] w fun e w' => e = .returned (.tuple #[]) ∧ Blk w' bo 83 (setAll L s.data.toList c) ∧ Chg (fun k => k = bo) w w' := by
  go_enter Tryd.func47, Tryd.ntmps47
  go_wp2
  go_loopw [5] (fun s5 wr => ∃ k : Nat, s5 = .int .i64 k ∧ k ≤ s.size ∧ Blk wr bo 83 (setAll L (s.data.toList.take k) c) ∧ Chg (fun k => k = bo) w wr) (fun s5 _ => s.size - (intOf s5).toNat)
  case atStart => exact ⟨0, rfl, by omega, hb, Chg.refl _ _⟩
  case round =>
    obtain ⟨k, rfl, hk, hbr, hch⟩ := hrel
    by_cases hlt : k < s.size
    · obtain ⟨b, hx⟩ : ∃ b, s[k]'hlt = b := ⟨_, rfl⟩
      have hI : (k : Int) < (s.size : Int) := by omega
      have hbl := b.toNat_lt
      have hbf := hbr.free b.toNat
      obtain ⟨vv, hvv⟩ : ∃ v, (setAll L (s.data.toList.take k) c)[b.toNat]? = some v := ⟨_, List.getElem?_eq_getElem (by rw [setAll_len, hL]; exact hbl)⟩
      have hbc := hbr.cell b.toNat
      rw [hvv] at hbc
      have HS := hid (setAll_snoc L s.data.toList c k b (by rw [← hx]; exact Lib.data_getElem? s k hlt))
      have hbn := hbr.set b.toNat (.int .i64 c)
      rw [← HS.out] at hbn
      clear hvv
      go_wp2
      go_roundw
      case rel => exact ⟨k + 1, by go_num, by omega, hbn, hch.set rfl _⟩
      case measure => simp [intOf] <;> omega
    · have hI : ¬ (k : Int) < (s.size : Int) := by omega
      have hk' : k = s.data.toList.length := by rw [← Lib.size_eq]; omega
      rw [hk', List.take_of_length_le (Nat.le_refl _)] at hbr
      clear hk'
      go_wp2
      go_end0
      exact ⟨rfl, hbr, hch⟩

theorem set_any2 (s : ByteArray) (c : Int) (bo : Nat) (L : List Value) (w : World) (hb : Blk w bo 83 L) (hL : L.length = 256) (hs : s.size ≤ 1000) :
    Calls Tryd.prog 47 #[.string s, .int .i64 c, .pointer (some ⟨bo, 0, none⟩)] w fun e w' => ∃ L', e = .returned (.tuple #[]) ∧ Blk w' bo 83 L' ∧ L'.length = 256 ∧ Hid (L' = setAll L s.data.toList c) ∧ Chg (fun k => k = bo) w w' :=
  (set_any s c bo L w hb hL hs).mono fun _ _ ⟨h1, h2, h3⟩ => ⟨_, h1, h2, by rw [setAll_len, hL], hid rfl, h3⟩
def clsCells : List Value := (List.range 256).map fun i => .int .i64 (clsN i)
theorem clsCells_get (b : UInt8) : clsCells[b.toNat]? = some (.int .i64 (cls b)) := by
  unfold clsCells cls
  have := b.toNat_lt
  simp [this]
theorem clsCells_len : clsCells.length = 256 := by simp [clsCells]
def str0 : ByteArray := { data := #[97, 98, 99, 100, 101, 102, 103, 104, 105, 106, 107, 108, 109, 110, 111, 112, 113, 114, 115, 116, 117, 118, 119, 120, 121, 122, 65, 66, 67, 68, 69, 70, 71, 72, 73, 74, 75, 76, 77, 78, 79, 80, 81, 82, 83, 84, 85, 86, 87, 88, 89, 90] }
def tab9 : List Value := setAll (setAll (setAll (setAll (setAll (setAll (setAll (setAll (setAll (List.replicate 256 (.int .i64 0))
  str0.data.toList 3) [48, 49, 50, 51, 52, 53, 54, 55, 56, 57] 4) [95] 5) [32, 9, 10] 1) [35] 2) [34] 6) [33] 7) [60, 62, 61] 8) [59, 44, 46, 58, 40, 41, 91, 93, 123, 125, 43, 45, 42, 47] 9
theorem tab9_eq : tab9 = clsCells := by kernel_rfl
theorem Tryd.zero83 : (Tryd.prog.info? 83).map (fun i => i.zero) = some (some (.agg (Array.replicate 256 (.int .i64 0)))) := by kernel_rfl
theorem setAll_256 {L : List Value} (h : L.length = 256) (s : List UInt8) (c : Int) : (setAll L s c).length = 256 := by rw [setAll_len, h]

set_option maxHeartbeats 2000000 in
set_option maxRecDepth 100000 in
theorem classes_any (w : World) : Calls Tryd.prog 32 #[] w fun e w' => e = .returned (.agg clsCells.toArray) ∧ Below w.heap.size w w' := by
  have hmk : ∀ (fn : Fn) (first cap : Array Value) (w : World), (Instr.makeFunc fn first cap).run Tryd.prog w = .ok (.func fn first cap) w := fun _ _ _ _ => rfl
  go_enter Tryd.func32, Tryd.ntmps32
  go_wp2_with fail
  have hzc : (Tryd.zeroCells83).toList = List.replicate 256 (Value.int .i64 0) := by kernel_rfl
  obtain ⟨w0, hw0⟩ : ∃ w0 : World, w0 = (w.alloc (Obj.cells Tryd.zeroCells83 83)).alloc (Obj.cells Tryd.zeroCells83 83) := ⟨_, rfl⟩
  have hb0 : Blk w0 (w.heap.size + 1) 83 (List.replicate 256 (.int .i64 0)) := by
    rw [hw0, ← hzc]
    have := Blk.new (w.alloc (Obj.cells Tryd.zeroCells83 83)) Tryd.zeroCells83 83
    rw [World.size_alloc] at this
    exact this
  have hr0 : Blk w0 w.heap.size 83 (List.replicate 256 (.int .i64 0)) := by
    rw [hw0, ← hzc]
    exact (Blk.new w Tryd.zeroCells83 83).alloc _
  have hgr : w.heap.size ≠ w.heap.size + 1 := by omega
  have hc0 : Chg (fun k => w.heap.size ≤ k) w w0 := by rw [hw0]; exact ((Chg.refl _ w).alloc _).alloc _
  have hl0 : (List.replicate 256 (Value.int .i64 0)).length = 256 := List.length_replicate
  have hg0 : w.heap.size ≤ w.heap.size + 1 := by omega
  rw [← hw0]
  clear hw0
  generalize w.heap.size + 1 = g at *
  obtain ⟨L0, hL0⟩ : ∃ L0, List.replicate 256 (Value.int .i64 0) = L0 := ⟨_, rfl⟩
  rw [hL0] at hb0 hl0
  have HL0 := hid hL0.symm
  clear hL0 hzc
  refine (set_any2 _ _ g L0 w0 hb0 hl0 (by decide)).mono ?_
  rintro e w1 ⟨L1, rfl, hb1, hl1, HL1, hd1⟩
  have hc1 := hc0.trans (hd1.mono (S' := fun k => w.heap.size ≤ k) (fun x _ e => by subst e; omega))
  have hr1 := hr0.chg hd1 hgr
  clear hb0 hl0 hc0 hd1 hr0
  go_wp2_with fail
  refine (set_any2 _ _ g L1 w1 hb1 hl1 (by decide)).mono ?_
  rintro e w2 ⟨L2, rfl, hb2, hl2, HL2, hd2⟩
  have hc2 := hc1.trans (hd2.mono (S' := fun k => w.heap.size ≤ k) (fun x _ e => by subst e; omega))
  have hr2 := hr1.chg hd2 hgr
  clear hb1 hl1 hc1 hd2 hr1
  go_wp2_with fail
  refine (set_any2 _ _ g L2 w2 hb2 hl2 (by decide)).mono ?_
  rintro e w3 ⟨L3, rfl, hb3, hl3, HL3, hd3⟩
  have hc3 := hc2.trans (hd3.mono (S' := fun k => w.heap.size ≤ k) (fun x _ e => by subst e; omega))
  have hr3 := hr2.chg hd3 hgr
  clear hb2 hl2 hc2 hd3 hr2
  go_wp2_with fail
  refine (set_any2 _ _ g L3 w3 hb3 hl3 (by decide)).mono ?_
  rintro e w4 ⟨L4, rfl, hb4, hl4, HL4, hd4⟩
  have hc4 := hc3.trans (hd4.mono (S' := fun k => w.heap.size ≤ k) (fun x _ e => by subst e; omega))
  have hr4 := hr3.chg hd4 hgr
  clear hb3 hl3 hc3 hd4 hr3
  go_wp2_with fail
  refine (set_any2 _ _ g L4 w4 hb4 hl4 (by decide)).mono ?_
  rintro e w5 ⟨L5, rfl, hb5, hl5, HL5, hd5⟩
  have hc5 := hc4.trans (hd5.mono (S' := fun k => w.heap.size ≤ k) (fun x _ e => by subst e; omega))
  have hr5 := hr4.chg hd5 hgr
  clear hb4 hl4 hc4 hd5 hr4
  go_wp2_with fail
  refine (set_any2 _ _ g L5 w5 hb5 hl5 (by decide)).mono ?_
  rintro e w6 ⟨L6, rfl, hb6, hl6, HL6, hd6⟩
  have hc6 := hc5.trans (hd6.mono (S' := fun k => w.heap.size ≤ k) (fun x _ e => by subst e; omega))
  have hr6 := hr5.chg hd6 hgr
  clear hb5 hl5 hc5 hd6 hr5
  go_wp2_with fail
  refine (set_any2 _ _ g L6 w6 hb6 hl6 (by decide)).mono ?_
  rintro e w7 ⟨L7, rfl, hb7, hl7, HL7, hd7⟩
  have hc7 := hc6.trans (hd7.mono (S' := fun k => w.heap.size ≤ k) (fun x _ e => by subst e; omega))
  have hr7 := hr6.chg hd7 hgr
  clear hb6 hl6 hc6 hd7 hr6
  go_wp2_with fail
  refine (set_any2 _ _ g L7 w7 hb7 hl7 (by decide)).mono ?_
  rintro e w8 ⟨L8, rfl, hb8, hl8, HL8, hd8⟩
  have hc8 := hc7.trans (hd8.mono (S' := fun k => w.heap.size ≤ k) (fun x _ e => by subst e; omega))
  have hr8 := hr7.chg hd8 hgr
  clear hb7 hl7 hc7 hd8 hr7
  go_wp2_with fail
  refine (set_any2 _ _ g L8 w8 hb8 hl8 (by decide)).mono ?_
  rintro e w9 ⟨L9, rfl, hb9, hl9, HL9, hd9⟩
  have hc9 := hc8.trans (hd9.mono (S' := fun k => w.heap.size ≤ k) (fun x _ e => by subst e; omega))
  have hr9 := hr8.chg hd9 hgr
  clear hb8 hl8 hc8 hd9 hr8
  have e9 : L9 = clsCells := by
    rw [HL9.out, HL8.out, HL7.out, HL6.out, HL5.out, HL4.out, HL3.out, HL2.out, HL1.out, HL0.out, ← tab9_eq]; rfl
  clear HL0 HL1 HL2 HL3 HL4 HL5 HL6 HL7 HL8 HL9
  subst e9
  obtain ⟨cc, hcc⟩ : ∃ cc, clsCells.toArray = cc := ⟨_, rfl⟩
  have hld : w9.heap[g]? = some (.cells cc 83 (0, 0)) := by rw [← hcc]; exact hb9
  have h256 : cc.size = 256 := by rw [← hcc]; simp [clsCells]
  have h1c : cc.all (·.oneCell') = true := by rw [← hcc]; kernel_rfl
  have hi1 : (Tryd.prog.info? 83).map (·.size) = some cc.size := by rw [h256]; kernel_rfl
  have HCC := hid hcc
  clear hcc hb9
  go_wp2_with (first
    | (refine wpList_load_row rfl 83 _ rfl g rfl 83 cc (0, 0) _ hld Tryd.underlying83 rfl hi1 ?_)
    | (refine wpList_store_row rfl 83 _ _ rfl w.heap.size cc rfl rfl 83 _ hr9 hi1 (by rw [h256]; rfl) h1c ?_))
  have hend := setRow_heap w9 w.heap.size _ cc 83 (0, 0) hr9
  refine bodyPost_ret (results_cell_row rfl _ _ w.heap.size 83 cc (0, 0) _ rfl hend Tryd.underlying83 rfl hi1) rfl ?_
  refine ⟨by rw [← HCC.out], ?_⟩
  exact below_setRow (hc9.toBelow (Nat.le_refl _) (fun _ h => h)) (Nat.le_refl _) cc
end Go.Proofs.YtogcnmjipfllaaaDoor
