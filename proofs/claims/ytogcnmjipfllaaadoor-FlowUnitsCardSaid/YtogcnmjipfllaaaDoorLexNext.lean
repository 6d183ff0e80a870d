/- lexer: the next token -/
import Derived.Test.YtogcnmjipfllaaaDoorLexScan
import Derived.Laws.Rows
import Derived.Laws.CopyOwn
namespace Go.Proofs.YtogcnmjipfllaaaDoor
open Go.RowKit

theorem str_slice {P : Program} (T : TypeId) (s : ByteArray) (a b : Int) (ha : 0 ≤ a) (hab : a ≤ b) (hb : b ≤ (s.size : Int)) (hu : P.underlying T = some .string) (w : World) :
    (Instr.slice T (.string s) (some (.int .i64 a)) (some (.int .i64 b)) none).run P w = .ok (.string (s.extract a.toNat b.toNat)) w := by
  have h0 : 0 ≤ b := by omega
  unfold Instr.slice Instr.sliceBounds Instr.sliceBound
  have h1 : a ≤ (b.toNat : Int) := by omega
  have h2 : ¬ max b 0 < a := by omega
  simp [go_sem, run_underlying hu, ha, hb, h0, h2]
theorem ext_take (s : ByteArray) (i n : Nat) : s.extract i (i + n) = ⟨((s.data.toList.drop i).take n).toArray⟩ := by
  have h : (s.extract i (i + n)).data.toList = (s.data.toList.drop i).take n := by
    simp only [ByteArray.data_extract, Array.toList_extract, List.extract_eq_take_drop]
    congr 1; omega
  rcases hx : s.extract i (i + n) with ⟨d⟩
  rw [hx] at h
  congr 1
  rw [← h]

/-- three results, the first a struct in a block -/
theorem results_row3 {P : Program} {fn : Func} {p q r : Tmp} {ty : TypeId} (h : fn.results = #[.cell p ty, .tmp q, .tmp r]) (tmps : Array Value) (w : World) (g : Nat) (t : TypeId) (cs : Array Value) (d : TypeDesc)
    (hp : tmps.getD p undef = .pointer (some ⟨g, 0, none⟩)) (hg : w.heap[g]? = some (.cells cs t (0, 0)))
    (hu : P.underlying ty = some d) (hd : (match d with | .struct _ | .array _ _ => true | _ => false) = true) (hi : (P.info? ty).map (·.size) = some cs.size) :
    (results fn tmps).run P w = .ok (.tuple #[.agg cs, tmps.getD q undef, tmps.getD r undef]) w := by
  have hp' : tmps[p]?.getD undef = .pointer (some ⟨g, 0, none⟩) := by simpa using hp
  simp [results, h, hp', asAddr, run_loadVar_row w g t ty cs (0, 0) d hg hu hd hi]
def tokV (k : Int) (t : List UInt8) (n : Int) (i : Nat) : Value := .agg #[.int .i64 k, .string ⟨t.toArray⟩, .int .i64 n, .int .i64 i]
def tok0 : Value := .agg #[.int .i64 0, .string ⟨#[]⟩, .int .i64 0, .int .i64 0]
def NextR (r : Tk) (i : Nat) (tv : Value) (en er : Int) : Prop :=
  match r with
  | .err e => tv = tok0 ∧ en = 0 ∧ er = e
  | .tok k t n w => tv = tokV k t n i ∧ en = ((i + w : Nat) : Int) ∧ er = 0
def NextPost (w : World) (l : List UInt8) (i : Nat) (e : Ending) (w' : World) : Prop :=
  ∃ tv en er, e = .returned (.tuple #[tv, .int .i64 en, .int .i64 er]) ∧ NextR (tok1 (l.drop i)) i tv en er ∧ Below w.heap.size w w'

theorem slv3 (w : World) (T : TypeId) (a b c : Nat) : SlV (w.alloc (.cells #[Value.int .i64 (a : Nat), Value.int .i64 (b : Nat), Value.int .i64 (c : Nat)] T)) (some ⟨w.heap.size, 0, none⟩) ([a, b, c].map fun c => Value.int .i64 (c : Nat)) :=
  ⟨by simp [maxLen], fun i x hi => ⟨w.heap.size, 0, rfl, by simp, by rw [World.cell?_alloc_at _ _ _ _ rfl]; simpa using hi⟩⟩


set_option maxHeartbeats 1000000 in
set_option maxRecDepth 100000 in
theorem next_letter (w : World) (sb : Nat) (s : ByteArray) (i : Nat) (h : Scan w sb s) (hs : s.size ≤ 1000000) (hi : i < s.size) (hc : atC s.data.toList i = 3) :
    Calls Tryd.prog 34 #[.pointer (some ⟨sb, 0, none⟩), .int .i64 i] w (NextPost w s.data.toList i) := by
  have HZ := hid (Lib.size_eq s)
  have ha := fun w h => at_any w sb s i h hs (by omega)
  rw [hc] at ha
  have HA := hid ha
  have hw := fun w ao cap h h2 => while_at w sb s i i 3 rfl ao cap [3, 4, 5] h hs (by omega) rfl h2 (by simp) (by simp)
  have hnl := spanC_le [3, 4, 5] (s.data.toList.drop i)
  have ht : tok1 (s.data.toList.drop i) = if 24 < spanC [3, 4, 5] (s.data.toList.drop i) then .err 2 else .tok 1 ((s.data.toList.drop i).take (spanC [3, 4, 5] (s.data.toList.drop i))) 0 (spanC [3, 4, 5] (s.data.toList.drop i)) := by
    unfold tok1; rw [if_pos (by rw [atC_drop]; exact hc)]
  rw [List.length_drop, ← HZ.out] at hnl
  generalize spanC [3, 4, 5] (s.data.toList.drop i) = n at *
  push_cast at hw
  have HW := hid hw
  have HT := hid ht
  clear hw ht ha hc
  by_cases hn : 24 < n
  · have hI : 24 < (i : Int) + (n : Int) - (i : Int) := by omega
    go_enter Tryd.func34, Tryd.ntmps34  ;go_wp2_with fail  ;obtain ⟨w0, hw0⟩ : ∃ w0 : World, w0 = w.alloc (.cells #[.int .i64 0, .string ⟨#[]⟩, .int .i64 0, .int .i64 0] 82) := ⟨_, rfl⟩  ;have hr0 : Blk w0 w.heap.size 82 [.int .i64 0, .string ⟨#[]⟩, .int .i64 0, .int .i64 0] := (by subst hw0; exact Blk.new _ _ _)  ;have hB0 : Below w.heap.size w w0 := (by subst hw0; exact below_alloc _ _)  ;have hscan0 : Scan w0 sb s := (by subst hw0; exact Blk.alloc h _)  ;rw [← hw0]  ;clear hw0  ;refine (HA.out w0 hscan0).mono ?_  ;rintro e w1 ⟨rfl, hch1⟩  ;have hr1 := hr0.chg hch1 (fun h => h)  ;have hB1 : Below w.heap.size w w1 := hB0.trans (hch1.toBelow hB0.size (fun _ h => h.elim))  ;have hscan1 : Scan w1 sb s := Blk.chg hscan0 hch1 (fun h => h)  ;have htx1 := hscan1.text
    have hscan2 : Scan (w1.alloc (Obj.cells #[Value.int .i64 3, Value.int .i64 4, Value.int .i64 5] 3)) sb s := Blk.alloc hscan1 _
    go_wp2_with fail
    refine (HW.out _ _ 3 hscan2 (slv3 w1 3 3 4 5)).mono ?_
    rintro e w2 ⟨rfl, hch2⟩
    have hr2 := (hr1.alloc _).chg hch2 (fun h => h)
    have hB2 : Below w.heap.size w w2 := hB1.trans (((below_alloc w1 _).trans (hch2.toBelow (by simp) (fun _ h => h.elim))).mono hB1.size)
    go_wp2_with (refine wpList_store_row rfl 82 _ _ rfl w.heap.size _ rfl rfl 82 _ hr2 (by kernel_rfl) rfl (by simp [Value.oneCell']) ?_)
    (try simp only [Exit.inBlock, Exit.then]); refine bodyPost_ret (results_row3 rfl _ _ w.heap.size 82 _ _ rfl (setRow_heap _ _ _ _ _ _ hr2) Tryd.underlying82 rfl (by kernel_rfl)) rfl ?_  ;refine ⟨_, _, _, rfl, ?_, below_setRow hB2 (Nat.le_refl _) _⟩
    rw [HT.out, if_pos hn]
    exact ⟨rfl, rfl, rfl⟩
  · have hI : ¬ 24 < (i : Int) + (n : Int) - (i : Int) := by omega
    have hsl := fun w => str_slice (P := Tryd.prog) 9 s i ((i : Int) + (n : Int)) (by omega) (by omega) (by omega) Tryd.underlying9 w
    rw [show ((i : Int) + (n : Int)).toNat = i + n by omega, Int.toNat_natCast, ext_take] at hsl
    go_enter Tryd.func34, Tryd.ntmps34  ;go_wp2_with fail  ;obtain ⟨w0, hw0⟩ : ∃ w0 : World, w0 = w.alloc (.cells #[.int .i64 0, .string ⟨#[]⟩, .int .i64 0, .int .i64 0] 82) := ⟨_, rfl⟩  ;have hr0 : Blk w0 w.heap.size 82 [.int .i64 0, .string ⟨#[]⟩, .int .i64 0, .int .i64 0] := (by subst hw0; exact Blk.new _ _ _)  ;have hB0 : Below w.heap.size w w0 := (by subst hw0; exact below_alloc _ _)  ;have hscan0 : Scan w0 sb s := (by subst hw0; exact Blk.alloc h _)  ;rw [← hw0]  ;clear hw0  ;refine (HA.out w0 hscan0).mono ?_  ;rintro e w1 ⟨rfl, hch1⟩  ;have hr1 := hr0.chg hch1 (fun h => h)  ;have hB1 : Below w.heap.size w w1 := hB0.trans (hch1.toBelow hB0.size (fun _ h => h.elim))  ;have hscan1 : Scan w1 sb s := Blk.chg hscan0 hch1 (fun h => h)  ;have htx1 := hscan1.text
    have hscan2 : Scan (w1.alloc (Obj.cells #[Value.int .i64 3, Value.int .i64 4, Value.int .i64 5] 3)) sb s := Blk.alloc hscan1 _
    go_wp2_with fail
    refine (HW.out _ _ 3 hscan2 (slv3 w1 3 3 4 5)).mono ?_
    rintro e w2 ⟨rfl, hch2⟩
    have hr2 := (hr1.alloc _).chg hch2 (fun h => h)
    have hB2 : Below w.heap.size w w2 := hB1.trans (((below_alloc w1 _).trans (hch2.toBelow (by simp) (fun _ h => h.elim))).mono hB1.size)
    have hscan3 : Scan w2 sb s := Blk.chg hscan2 hch2 (fun h => h)
    have htx3 := hscan3.text
    clear htx1
    go_wp2_with (refine wpList_store_row rfl 82 _ _ rfl w.heap.size _ rfl rfl 82 _ hr2 (by kernel_rfl) rfl (by simp [Value.oneCell']) ?_)
    (try simp only [Exit.inBlock, Exit.then]); refine bodyPost_ret (results_row3 rfl _ _ w.heap.size 82 _ _ rfl (setRow_heap _ _ _ _ _ _ hr2) Tryd.underlying82 rfl (by kernel_rfl)) rfl ?_  ;refine ⟨_, _, _, rfl, ?_, below_setRow hB2 (Nat.le_refl _) _⟩
    rw [HT.out, if_neg hn]
    exact ⟨rfl, by push_cast; rfl, rfl⟩

theorem slprefix_any (t : ByteArray) (w : World) (ht : t.size ≤ 1000000) : Calls Tryd.prog 68 #[.string t, .string ⟨#[61]⟩] w fun e w' => e = .returned (.bool (decide (t.data.toList.head? = some 61))) ∧ w = w' := by
  have HZ := hid (Lib.size_eq t)
  by_cases h : 0 < t.size
  · obtain ⟨b, r, hbr⟩ : ∃ b r, t.data.toList = b :: r := List.exists_cons_of_ne_nil (by intro e; have := HZ.out; rw [e, List.length_nil] at this; omega)
    have hx : t.extract 0 1 = ⟨#[b]⟩ := by
      have := ext_take t 0 1
      rw [Nat.zero_add] at this
      rw [this, hbr]; rfl
    have HB := hid hbr
    clear hbr
    by_cases hb : b = 61
    · subst hb
      go_enter Tryd.func68, Tryd.ntmps68
      go_wp2_with fail
      go_ret
      exact ⟨ret_bool (by rw [HB.out]; first | rfl | simp), rfl⟩
    · have hne : (([b] : List UInt8) == [61]) = false := by simpa using hb
      go_enter Tryd.func68, Tryd.ntmps68
      go_wp2_with fail
      go_ret
      exact ⟨ret_bool (by rw [HB.out]; first | rfl | (simp [*]) | simp [hb]), rfl⟩
  · have hnil : t.data.toList = [] := List.eq_nil_of_length_eq_zero (by have := HZ.out; omega)
    have HN := hid hnil
    clear hnil
    go_enter Tryd.func68, Tryd.ntmps68
    go_wp2_with fail
    go_ret
    exact ⟨ret_bool (by rw [HN.out]; first | rfl | simp), rfl⟩
theorem prefix_any (t : ByteArray) (w : World) (ht : t.size ≤ 1000000) : Calls Tryd.prog 53 #[.string t, .string ⟨#[61]⟩] w fun e w' => e = .returned (.bool (decide (t.data.toList.head? = some 61))) ∧ w = w' := by
  have HP := hid (fun w => slprefix_any t w ht)
  generalize (decide (t.data.toList.head? = some 61)) = B at *
  go_enter Tryd.func53, Tryd.ntmps53
  go_wp2_with fail
  refine (HP.out _).mono ?_
  rintro e w' ⟨rfl, rfl⟩
  go_wp2_with fail
  go_ret
  exact ⟨rfl, rfl⟩

theorem take1 (l : List UInt8) (i : Nat) (h : i < l.length) : ∃ b r, l.drop i = b :: r ∧ r = l.drop (i + 1) := ⟨_, _, List.drop_eq_getElem_cons h, rfl⟩

set_option maxHeartbeats 1000000 in
set_option maxRecDepth 100000 in
theorem next_symbol (w : World) (sb : Nat) (s : ByteArray) (i : Nat) (h : Scan w sb s) (hs : s.size ≤ 1000000) (hi : i < s.size) (hc : atC s.data.toList i = 9) :
    Calls Tryd.prog 34 #[.pointer (some ⟨sb, 0, none⟩), .int .i64 i] w (NextPost w s.data.toList i) := by
  have ht : tok1 (s.data.toList.drop i) = .tok 4 ((s.data.toList.drop i).take 1) 0 1 := by
    unfold tok1; rw [atC_drop, Nat.add_zero, hc]; rfl
  have HT := hid ht
  clear ht
  have HZ := hid (Lib.size_eq s)  ;have ha := fun w h => at_any w sb s i h hs (by omega)  ;rw [hc] at ha  ;have HA := hid ha  ;clear ha
  clear hc
  have hsl := fun w => str_slice (P := Tryd.prog) 9 s i ((i : Int) + 1) (by omega) (by omega) (by omega) Tryd.underlying9 w  ;rw [show ((i : Int) + 1).toNat = i + 1 by omega, Int.toNat_natCast, ext_take] at hsl
  go_enter Tryd.func34, Tryd.ntmps34  ;go_wp2_with fail  ;obtain ⟨w0, hw0⟩ : ∃ w0 : World, w0 = w.alloc (.cells #[.int .i64 0, .string ⟨#[]⟩, .int .i64 0, .int .i64 0] 82) := ⟨_, rfl⟩  ;have hr0 : Blk w0 w.heap.size 82 [.int .i64 0, .string ⟨#[]⟩, .int .i64 0, .int .i64 0] := (by subst hw0; exact Blk.new _ _ _)  ;have hB0 : Below w.heap.size w w0 := (by subst hw0; exact below_alloc _ _)  ;have hscan0 : Scan w0 sb s := (by subst hw0; exact Blk.alloc h _)  ;rw [← hw0]  ;clear hw0  ;refine (HA.out w0 hscan0).mono ?_  ;rintro e w1 ⟨rfl, hch1⟩  ;have hr1 := hr0.chg hch1 (fun h => h)  ;have hB1 : Below w.heap.size w w1 := hB0.trans (hch1.toBelow hB0.size (fun _ h => h.elim))  ;have hscan1 : Scan w1 sb s := Blk.chg hscan0 hch1 (fun h => h)  ;have htx1 := hscan1.text
  have hr2 := hr1; have hB2 := hB1
  go_wp2_with (refine wpList_store_row rfl 82 _ _ rfl w.heap.size _ rfl rfl 82 _ hr2 (by kernel_rfl) rfl (by simp [Value.oneCell']) ?_)
  (try simp only [Exit.inBlock, Exit.then]); refine bodyPost_ret (results_row3 rfl _ _ w.heap.size 82 _ _ rfl (setRow_heap _ _ _ _ _ _ hr2) Tryd.underlying82 rfl (by kernel_rfl)) rfl ?_  ;refine ⟨_, _, _, rfl, ?_, below_setRow hB2 (Nat.le_refl _) _⟩
  rw [HT.out]
  exact ⟨rfl, by push_cast; rfl, rfl⟩

set_option maxHeartbeats 1000000 in
set_option maxRecDepth 100000 in
theorem next_other (w : World) (sb : Nat) (s : ByteArray) (i : Nat) (c : Nat) (h : Scan w sb s) (hs : s.size ≤ 1000000) (hi : i < s.size) (hc : atC s.data.toList i = c) (hcs : c = 0 ∨ c = 1 ∨ c = 2 ∨ c = 5) :
    Calls Tryd.prog 34 #[.pointer (some ⟨sb, 0, none⟩), .int .i64 i] w (NextPost w s.data.toList i) := by
  have ht : tok1 (s.data.toList.drop i) = .err 3 := by
    unfold tok1; rw [atC_drop, Nat.add_zero, hc]; rcases hcs with rfl | rfl | rfl | rfl <;> rfl
  have HT := hid ht
  clear ht
  have HZ := hid (Lib.size_eq s)  ;have ha := fun w h => at_any w sb s i h hs (by omega)  ;rw [hc] at ha  ;have HA := hid ha  ;clear ha
  clear hc
  rcases hcs with rfl | rfl | rfl | rfl
  all_goals
    go_enter Tryd.func34, Tryd.ntmps34  ;go_wp2_with fail  ;obtain ⟨w0, hw0⟩ : ∃ w0 : World, w0 = w.alloc (.cells #[.int .i64 0, .string ⟨#[]⟩, .int .i64 0, .int .i64 0] 82) := ⟨_, rfl⟩  ;have hr0 : Blk w0 w.heap.size 82 [.int .i64 0, .string ⟨#[]⟩, .int .i64 0, .int .i64 0] := (by subst hw0; exact Blk.new _ _ _)  ;have hB0 : Below w.heap.size w w0 := (by subst hw0; exact below_alloc _ _)  ;have hscan0 : Scan w0 sb s := (by subst hw0; exact Blk.alloc h _)  ;rw [← hw0]  ;clear hw0  ;refine (HA.out w0 hscan0).mono ?_  ;rintro e w1 ⟨rfl, hch1⟩  ;have hr1 := hr0.chg hch1 (fun h => h)  ;have hB1 : Below w.heap.size w w1 := hB0.trans (hch1.toBelow hB0.size (fun _ h => h.elim))  ;have hscan1 : Scan w1 sb s := Blk.chg hscan0 hch1 (fun h => h)  ;have htx1 := hscan1.text
    have hr2 := hr1; have hB2 := hB1
    go_wp2_with (refine wpList_store_row rfl 82 _ _ rfl w.heap.size _ rfl rfl 82 _ hr2 (by kernel_rfl) rfl (by simp [Value.oneCell']) ?_)
    (try simp only [Exit.inBlock, Exit.then]); refine bodyPost_ret (results_row3 rfl _ _ w.heap.size 82 _ _ rfl (setRow_heap _ _ _ _ _ _ hr2) Tryd.underlying82 rfl (by kernel_rfl)) rfl ?_  ;refine ⟨_, _, _, rfl, ?_, below_setRow hB2 (Nat.le_refl _) _⟩
    rw [HT.out]
    exact ⟨rfl, rfl, rfl⟩

set_option maxHeartbeats 2000000 in
set_option maxRecDepth 100000 in
theorem next_mark (w : World) (sb : Nat) (s : ByteArray) (i : Nat) (c : Nat) (h : Scan w sb s) (hs : s.size ≤ 1000000) (hi : i < s.size) (hc : atC s.data.toList i = c) (hcs : c = 7 ∨ c = 8) :
    Calls Tryd.prog 34 #[.pointer (some ⟨sb, 0, none⟩), .int .i64 i] w (NextPost w s.data.toList i) := by
  have ht : tok1 (s.data.toList.drop i) = if (s.data.toList.drop (i + 1)).head? = some 61 then .tok 4 ((s.data.toList.drop i).take 2) 0 2 else if c = 7 then .err 3 else .tok 4 ((s.data.toList.drop i).take 1) 0 1 := by
    unfold tok1; rw [atC_drop, Nat.add_zero, hc, List.tail_drop]; rcases hcs with rfl | rfl <;> rfl
  have HT := hid ht
  clear ht
  have HZ := hid (Lib.size_eq s)  ;have ha := fun w h => at_any w sb s i h hs (by omega)  ;rw [hc] at ha  ;have HA := hid ha  ;clear ha
  clear hc
  have hsl := fun w => str_slice (P := Tryd.prog) 9 s i ((i : Int) + 1) (by omega) (by omega) (by omega) Tryd.underlying9 w  ;rw [show ((i : Int) + 1).toNat = i + 1 by omega, Int.toNat_natCast, ext_take] at hsl
  have hpx := fun w => prefix_any ⟨(s.data.toList.drop (i + 1)).toArray⟩ w (by rw [drop_size s (i + 1) (by omega)]; omega)
  dsimp only at hpx
  by_cases hh : (s.data.toList.drop (i + 1)).head? = some 61
  · rw [if_pos hh] at HT
    rw [decide_eq_true hh] at hpx
    have HP := hid hpx
    have hi2 : i + 2 ≤ s.size := by
      rcases Nat.lt_or_ge (i + 1) s.size with h | h
      · omega
      · rw [List.drop_eq_nil_of_le (by have := HZ.out; omega)] at hh; cases hh
    clear hpx hh hsl
    have hsl := fun w => str_slice (P := Tryd.prog) 9 s i ((i : Int) + 2) (by omega) (by omega) (by omega) Tryd.underlying9 w
    rw [show ((i : Int) + 2).toNat = i + 2 by omega, Int.toNat_natCast, ext_take] at hsl
    rcases hcs with rfl | rfl
    all_goals
      go_enter Tryd.func34, Tryd.ntmps34  ;go_wp2_with fail  ;obtain ⟨w0, hw0⟩ : ∃ w0 : World, w0 = w.alloc (.cells #[.int .i64 0, .string ⟨#[]⟩, .int .i64 0, .int .i64 0] 82) := ⟨_, rfl⟩  ;have hr0 : Blk w0 w.heap.size 82 [.int .i64 0, .string ⟨#[]⟩, .int .i64 0, .int .i64 0] := (by subst hw0; exact Blk.new _ _ _)  ;have hB0 : Below w.heap.size w w0 := (by subst hw0; exact below_alloc _ _)  ;have hscan0 : Scan w0 sb s := (by subst hw0; exact Blk.alloc h _)  ;rw [← hw0]  ;clear hw0  ;refine (HA.out w0 hscan0).mono ?_  ;rintro e w1 ⟨rfl, hch1⟩  ;have hr1 := hr0.chg hch1 (fun h => h)  ;have hB1 : Below w.heap.size w w1 := hB0.trans (hch1.toBelow hB0.size (fun _ h => h.elim))  ;have hscan1 : Scan w1 sb s := Blk.chg hscan0 hch1 (fun h => h)  ;have htx1 := hscan1.text
      have hr2 := hr1; have hB2 := hB1
      go_wp2_with fail
      rw [drop_ext]
      refine (HP.out _).mono ?_
      rintro e w' ⟨rfl, rfl⟩
      go_wp2_with (refine wpList_store_row rfl 82 _ _ rfl w.heap.size _ rfl rfl 82 _ hr2 (by kernel_rfl) rfl (by simp [Value.oneCell']) ?_)
      (try simp only [Exit.inBlock, Exit.then]); refine bodyPost_ret (results_row3 rfl _ _ w.heap.size 82 _ _ rfl (setRow_heap _ _ _ _ _ _ hr2) Tryd.underlying82 rfl (by kernel_rfl)) rfl ?_  ;refine ⟨_, _, _, rfl, ?_, below_setRow hB2 (Nat.le_refl _) _⟩
      rw [HT.out]
      exact ⟨rfl, by push_cast; rfl, rfl⟩
  · rw [if_neg hh] at HT
    rw [decide_eq_false hh] at hpx
    have HP := hid hpx
    clear hpx hh
    rcases hcs with rfl | rfl
    · go_enter Tryd.func34, Tryd.ntmps34  ;go_wp2_with fail  ;obtain ⟨w0, hw0⟩ : ∃ w0 : World, w0 = w.alloc (.cells #[.int .i64 0, .string ⟨#[]⟩, .int .i64 0, .int .i64 0] 82) := ⟨_, rfl⟩  ;have hr0 : Blk w0 w.heap.size 82 [.int .i64 0, .string ⟨#[]⟩, .int .i64 0, .int .i64 0] := (by subst hw0; exact Blk.new _ _ _)  ;have hB0 : Below w.heap.size w w0 := (by subst hw0; exact below_alloc _ _)  ;have hscan0 : Scan w0 sb s := (by subst hw0; exact Blk.alloc h _)  ;rw [← hw0]  ;clear hw0  ;refine (HA.out w0 hscan0).mono ?_  ;rintro e w1 ⟨rfl, hch1⟩  ;have hr1 := hr0.chg hch1 (fun h => h)  ;have hB1 : Below w.heap.size w w1 := hB0.trans (hch1.toBelow hB0.size (fun _ h => h.elim))  ;have hscan1 : Scan w1 sb s := Blk.chg hscan0 hch1 (fun h => h)  ;have htx1 := hscan1.text
      have hr2 := hr1; have hB2 := hB1
      go_wp2_with fail
      rw [drop_ext]
      refine (HP.out _).mono ?_
      rintro e w' ⟨rfl, rfl⟩
      go_wp2_with (refine wpList_store_row rfl 82 _ _ rfl w.heap.size _ rfl rfl 82 _ hr2 (by kernel_rfl) rfl (by simp [Value.oneCell']) ?_)
      (try simp only [Exit.inBlock, Exit.then]); refine bodyPost_ret (results_row3 rfl _ _ w.heap.size 82 _ _ rfl (setRow_heap _ _ _ _ _ _ hr2) Tryd.underlying82 rfl (by kernel_rfl)) rfl ?_  ;refine ⟨_, _, _, rfl, ?_, below_setRow hB2 (Nat.le_refl _) _⟩
      rw [HT.out]
      exact ⟨rfl, rfl, rfl⟩
    · go_enter Tryd.func34, Tryd.ntmps34  ;go_wp2_with fail  ;obtain ⟨w0, hw0⟩ : ∃ w0 : World, w0 = w.alloc (.cells #[.int .i64 0, .string ⟨#[]⟩, .int .i64 0, .int .i64 0] 82) := ⟨_, rfl⟩  ;have hr0 : Blk w0 w.heap.size 82 [.int .i64 0, .string ⟨#[]⟩, .int .i64 0, .int .i64 0] := (by subst hw0; exact Blk.new _ _ _)  ;have hB0 : Below w.heap.size w w0 := (by subst hw0; exact below_alloc _ _)  ;have hscan0 : Scan w0 sb s := (by subst hw0; exact Blk.alloc h _)  ;rw [← hw0]  ;clear hw0  ;refine (HA.out w0 hscan0).mono ?_  ;rintro e w1 ⟨rfl, hch1⟩  ;have hr1 := hr0.chg hch1 (fun h => h)  ;have hB1 : Below w.heap.size w w1 := hB0.trans (hch1.toBelow hB0.size (fun _ h => h.elim))  ;have hscan1 : Scan w1 sb s := Blk.chg hscan0 hch1 (fun h => h)  ;have htx1 := hscan1.text
      have hr2 := hr1; have hB2 := hB1
      go_wp2_with fail
      rw [drop_ext]
      refine (HP.out _).mono ?_
      rintro e w' ⟨rfl, rfl⟩
      go_wp2_with (refine wpList_store_row rfl 82 _ _ rfl w.heap.size _ rfl rfl 82 _ hr2 (by kernel_rfl) rfl (by simp [Value.oneCell']) ?_)
      (try simp only [Exit.inBlock, Exit.then]); refine bodyPost_ret (results_row3 rfl _ _ w.heap.size 82 _ _ rfl (setRow_heap _ _ _ _ _ _ hr2) Tryd.underlying82 rfl (by kernel_rfl)) rfl ?_  ;refine ⟨_, _, _, rfl, ?_, below_setRow hB2 (Nat.le_refl _) _⟩
      rw [HT.out]
      exact ⟨rfl, by push_cast; rfl, rfl⟩

theorem at_at (w : World) (sb : Nat) (s : ByteArray) (x : Int) (i : Nat) (hx : x = (i : Int)) (h : Scan w sb s) (hs : s.size ≤ 1000000) (hi : i ≤ 1000000) :
    Calls Tryd.prog 49 #[.pointer (some ⟨sb, 0, none⟩), .int .i64 x] w fun e w' => e = .returned (.int .i64 (atC s.data.toList i)) ∧ Chg (fun _ => False) w w' := by
  subst hx; exact at_any w sb s i h hs hi

theorem cls_four {b : UInt8} (h : cls b = 4) : 48 ≤ b.toNat ∧ b.toNat ≤ 57 := by
  have : ∀ n : Nat, n < 256 → clsN n = 4 → 48 ≤ n ∧ n ≤ 57 := by decide +kernel
  exact this _ b.toNat_lt h
theorem decFrom_digits (l : List UInt8) (acc : Nat) (h : ∀ b ∈ l, 48 ≤ b.toNat ∧ b.toNat ≤ 57) : Lib.decFrom acc l = some (l.foldl (fun a b => a * 10 + (b.toNat - 48)) acc) := by
  induction l generalizing acc with
  | nil => rfl
  | cons b l ih =>
    have hb := h b (by simp)
    simp only [Lib.decFrom, Lib.digitVal, if_pos hb, List.foldl_cons]
    exact ih _ (fun x hx => h x (by simp [hx]))
theorem atoi_digits (d : List UInt8) (h1 : d ≠ []) (h2 : d.length ≤ 13) (hd : ∀ b ∈ d, 48 ≤ b.toNat ∧ b.toNat ≤ 57) : Lib.atoiAll d = .ok (numV d : Int) := by
  rw [Lib.atoiAll_short d (by omega)]
  obtain ⟨b, r, rfl⟩ := List.exists_cons_of_ne_nil h1
  have hb := hd b (by simp)
  have e1 : (b == 45) = false := by rw [beq_eq_false_iff_ne]; rintro rfl; exact absurd hb.1 (by decide)
  have e2 : (b == 43) = false := by rw [beq_eq_false_iff_ne]; rintro rfl; exact absurd hb.1 (by decide)
  simp only [Lib.atoi, e1, e2, Lib.decNat, List.isEmpty_cons, decFrom_digits _ 0 hd]
  rfl
theorem slv1' (w : World) (T : TypeId) (c : Nat) : SlV (w.alloc (.cells #[Value.int .i64 (c : Nat)] T)) (some ⟨w.heap.size, 0, none⟩) ([c].map fun c => Value.int .i64 (c : Nat)) := slv1 w T c


set_option maxHeartbeats 2000000 in
set_option maxRecDepth 100000 in
theorem next_digit (w : World) (sb : Nat) (s : ByteArray) (i : Nat) (h : Scan w sb s) (hs : s.size ≤ 20000) (hi : i < s.size) (hc : atC s.data.toList i = 4) :
    Calls Tryd.prog 34 #[.pointer (some ⟨sb, 0, none⟩), .int .i64 i] w (NextPost w s.data.toList i) := by
  have HZ := hid (Lib.size_eq s)
  have ha := fun w h => at_any w sb s i h (by omega) (by omega)
  rw [hc] at ha
  have HA := hid ha
  have hw := fun w ao cap h h2 => while_at w sb s i i 1 rfl ao cap [4] h (by omega) (by omega) rfl h2 (by simp) (by simp)
  have hnl := spanC_le [4] (s.data.toList.drop i)
  have hn1 : 1 ≤ spanC [4] (s.data.toList.drop i) := by
    have := spanC_step (cs := [4]) (l := s.data.toList) (k := i) (by have := HZ.out; omega) (by rw [hc]; decide)
    omega
  have ht : tok1 (s.data.toList.drop i) = if 13 < spanC [4] (s.data.toList.drop i) ∨ atC (s.data.toList.drop i) (spanC [4] (s.data.toList.drop i)) = 3 ∨ atC (s.data.toList.drop i) (spanC [4] (s.data.toList.drop i)) = 5 then .err 4
      else .tok 2 ((s.data.toList.drop i).take (spanC [4] (s.data.toList.drop i))) (numV ((s.data.toList.drop i).take (spanC [4] (s.data.toList.drop i)))) (spanC [4] (s.data.toList.drop i)) := by
    unfold tok1; rw [if_neg (by rw [atC_drop, Nat.add_zero, hc]; decide), if_pos (by rw [atC_drop]; exact hc)]
  have hdig : ∀ b ∈ (s.data.toList.drop i).take (spanC [4] (s.data.toList.drop i)), 48 ≤ b.toNat ∧ b.toNat ≤ 57 := by
    intro b hb
    obtain ⟨j, hj⟩ := List.getElem?_of_mem hb
    have hjl := (List.getElem?_eq_some_iff.1 hj).1
    rw [List.length_take] at hjl
    rw [List.getElem?_take, if_pos (by omega)] at hj
    have := spanC_all (cs := [4]) (by omega) hj
    exact cls_four (by simpa using this)
  rw [List.length_drop, ← HZ.out] at hnl
  rw [atC_drop] at ht
  generalize spanC [4] (s.data.toList.drop i) = n at *
  have ha2 := fun w h => at_at w sb s ((i : Int) + n) (i + n) (by push_cast; rfl) h (by omega) (by omega)
  have hle := atC_le s.data.toList (i + n)
  generalize atC s.data.toList (i + n) = a at *
  push_cast at hw
  have HW := hid hw
  have HT := hid ht
  have HA2 := hid ha2
  clear hw ht ha hc ha2
  by_cases hbad : 13 < n ∨ a = 3 ∨ a = 5
  · rw [if_pos hbad] at HT
    clear hdig
    by_cases hn : 13 < n
    · have hI : 13 < (i : Int) + (n : Int) - (i : Int) := by omega
      clear hbad
      go_enter Tryd.func34, Tryd.ntmps34  ;go_wp2_with fail  ;obtain ⟨w0, hw0⟩ : ∃ w0 : World, w0 = w.alloc (.cells #[.int .i64 0, .string ⟨#[]⟩, .int .i64 0, .int .i64 0] 82) := ⟨_, rfl⟩  ;have hr0 : Blk w0 w.heap.size 82 [.int .i64 0, .string ⟨#[]⟩, .int .i64 0, .int .i64 0] := (by subst hw0; exact Blk.new _ _ _)  ;have hB0 : Below w.heap.size w w0 := (by subst hw0; exact below_alloc _ _)  ;have hscan0 : Scan w0 sb s := (by subst hw0; exact Blk.alloc h _)  ;rw [← hw0]  ;clear hw0  ;refine (HA.out w0 hscan0).mono ?_  ;rintro e w1 ⟨rfl, hch1⟩  ;have hr1 := hr0.chg hch1 (fun h => h)  ;have hB1 : Below w.heap.size w w1 := hB0.trans (hch1.toBelow hB0.size (fun _ h => h.elim))  ;have hscan1 : Scan w1 sb s := Blk.chg hscan0 hch1 (fun h => h)  ;have htx1 := hscan1.text  ;have hscan2 : Scan (w1.alloc (Obj.cells #[Value.int .i64 4] 3)) sb s := Blk.alloc hscan1 _  ;go_wp2_with fail  ;refine (HW.out _ _ 1 hscan2 (slv1 w1 3 4)).mono ?_  ;rintro e w2 ⟨rfl, hch2⟩  ;have hr2' := (hr1.alloc _).chg hch2 (fun h => h)  ;have hB2' : Below w.heap.size w w2 := hB1.trans (((below_alloc w1 _).trans (hch2.toBelow (by simp) (fun _ h => h.elim))).mono hB1.size)  ;have hscan3 : Scan w2 sb s := Blk.chg hscan2 hch2 (fun h => h)  ;go_wp2_with fail  ;refine (HA2.out _ hscan3).mono ?_  ;rintro e w3 ⟨rfl, hch3⟩  ;have hr3 := hr2'.chg hch3 (fun h => h)  ;have hB3 : Below w.heap.size w w3 := hB2'.trans (hch3.toBelow hB2'.size (fun _ h => h.elim))  ;have hscan4 : Scan w3 sb s := Blk.chg hscan3 hch3 (fun h => h)  ;have htx4 := hscan4.text  ;clear htx1
      have hr2 := hr3
      have hB2 := hB3
      go_wp2_with (refine wpList_store_row rfl 82 _ _ rfl w.heap.size _ rfl rfl 82 _ hr2 (by kernel_rfl) rfl (by simp [Value.oneCell']) ?_)
      (try simp only [Exit.inBlock, Exit.then]); refine bodyPost_ret (results_row3 rfl _ _ w.heap.size 82 _ _ rfl (setRow_heap _ _ _ _ _ _ hr2) Tryd.underlying82 rfl (by kernel_rfl)) rfl ?_  ;refine ⟨_, _, _, rfl, ?_, below_setRow hB2 (Nat.le_refl _) _⟩
      rw [HT.out]
      exact ⟨rfl, rfl, rfl⟩
    · have hI : ¬ 13 < (i : Int) + (n : Int) - (i : Int) := by omega
      by_cases h3 : a = 3
      · subst h3
        clear hbad
        go_enter Tryd.func34, Tryd.ntmps34  ;go_wp2_with fail  ;obtain ⟨w0, hw0⟩ : ∃ w0 : World, w0 = w.alloc (.cells #[.int .i64 0, .string ⟨#[]⟩, .int .i64 0, .int .i64 0] 82) := ⟨_, rfl⟩  ;have hr0 : Blk w0 w.heap.size 82 [.int .i64 0, .string ⟨#[]⟩, .int .i64 0, .int .i64 0] := (by subst hw0; exact Blk.new _ _ _)  ;have hB0 : Below w.heap.size w w0 := (by subst hw0; exact below_alloc _ _)  ;have hscan0 : Scan w0 sb s := (by subst hw0; exact Blk.alloc h _)  ;rw [← hw0]  ;clear hw0  ;refine (HA.out w0 hscan0).mono ?_  ;rintro e w1 ⟨rfl, hch1⟩  ;have hr1 := hr0.chg hch1 (fun h => h)  ;have hB1 : Below w.heap.size w w1 := hB0.trans (hch1.toBelow hB0.size (fun _ h => h.elim))  ;have hscan1 : Scan w1 sb s := Blk.chg hscan0 hch1 (fun h => h)  ;have htx1 := hscan1.text  ;have hscan2 : Scan (w1.alloc (Obj.cells #[Value.int .i64 4] 3)) sb s := Blk.alloc hscan1 _  ;go_wp2_with fail  ;refine (HW.out _ _ 1 hscan2 (slv1 w1 3 4)).mono ?_  ;rintro e w2 ⟨rfl, hch2⟩  ;have hr2' := (hr1.alloc _).chg hch2 (fun h => h)  ;have hB2' : Below w.heap.size w w2 := hB1.trans (((below_alloc w1 _).trans (hch2.toBelow (by simp) (fun _ h => h.elim))).mono hB1.size)  ;have hscan3 : Scan w2 sb s := Blk.chg hscan2 hch2 (fun h => h)  ;go_wp2_with fail  ;refine (HA2.out _ hscan3).mono ?_  ;rintro e w3 ⟨rfl, hch3⟩  ;have hr3 := hr2'.chg hch3 (fun h => h)  ;have hB3 : Below w.heap.size w w3 := hB2'.trans (hch3.toBelow hB2'.size (fun _ h => h.elim))  ;have hscan4 : Scan w3 sb s := Blk.chg hscan3 hch3 (fun h => h)  ;have htx4 := hscan4.text  ;clear htx1
        have hr2 := hr3
        have hB2 := hB3
        go_wp2_with (refine wpList_store_row rfl 82 _ _ rfl w.heap.size _ rfl rfl 82 _ hr2 (by kernel_rfl) rfl (by simp [Value.oneCell']) ?_)
        (try simp only [Exit.inBlock, Exit.then]); refine bodyPost_ret (results_row3 rfl _ _ w.heap.size 82 _ _ rfl (setRow_heap _ _ _ _ _ _ hr2) Tryd.underlying82 rfl (by kernel_rfl)) rfl ?_  ;refine ⟨_, _, _, rfl, ?_, below_setRow hB2 (Nat.le_refl _) _⟩
        rw [HT.out]
        exact ⟨rfl, rfl, rfl⟩
      · obtain rfl : a = 5 := by omega
        clear hbad
        go_enter Tryd.func34, Tryd.ntmps34  ;go_wp2_with fail  ;obtain ⟨w0, hw0⟩ : ∃ w0 : World, w0 = w.alloc (.cells #[.int .i64 0, .string ⟨#[]⟩, .int .i64 0, .int .i64 0] 82) := ⟨_, rfl⟩  ;have hr0 : Blk w0 w.heap.size 82 [.int .i64 0, .string ⟨#[]⟩, .int .i64 0, .int .i64 0] := (by subst hw0; exact Blk.new _ _ _)  ;have hB0 : Below w.heap.size w w0 := (by subst hw0; exact below_alloc _ _)  ;have hscan0 : Scan w0 sb s := (by subst hw0; exact Blk.alloc h _)  ;rw [← hw0]  ;clear hw0  ;refine (HA.out w0 hscan0).mono ?_  ;rintro e w1 ⟨rfl, hch1⟩  ;have hr1 := hr0.chg hch1 (fun h => h)  ;have hB1 : Below w.heap.size w w1 := hB0.trans (hch1.toBelow hB0.size (fun _ h => h.elim))  ;have hscan1 : Scan w1 sb s := Blk.chg hscan0 hch1 (fun h => h)  ;have htx1 := hscan1.text  ;have hscan2 : Scan (w1.alloc (Obj.cells #[Value.int .i64 4] 3)) sb s := Blk.alloc hscan1 _  ;go_wp2_with fail  ;refine (HW.out _ _ 1 hscan2 (slv1 w1 3 4)).mono ?_  ;rintro e w2 ⟨rfl, hch2⟩  ;have hr2' := (hr1.alloc _).chg hch2 (fun h => h)  ;have hB2' : Below w.heap.size w w2 := hB1.trans (((below_alloc w1 _).trans (hch2.toBelow (by simp) (fun _ h => h.elim))).mono hB1.size)  ;have hscan3 : Scan w2 sb s := Blk.chg hscan2 hch2 (fun h => h)  ;go_wp2_with fail  ;refine (HA2.out _ hscan3).mono ?_  ;rintro e w3 ⟨rfl, hch3⟩  ;have hr3 := hr2'.chg hch3 (fun h => h)  ;have hB3 : Below w.heap.size w w3 := hB2'.trans (hch3.toBelow hB2'.size (fun _ h => h.elim))  ;have hscan4 : Scan w3 sb s := Blk.chg hscan3 hch3 (fun h => h)  ;have htx4 := hscan4.text  ;clear htx1
        have hr2 := hr3
        have hB2 := hB3
        go_wp2_with (refine wpList_store_row rfl 82 _ _ rfl w.heap.size _ rfl rfl 82 _ hr2 (by kernel_rfl) rfl (by simp [Value.oneCell']) ?_)
        (try simp only [Exit.inBlock, Exit.then]); refine bodyPost_ret (results_row3 rfl _ _ w.heap.size 82 _ _ rfl (setRow_heap _ _ _ _ _ _ hr2) Tryd.underlying82 rfl (by kernel_rfl)) rfl ?_  ;refine ⟨_, _, _, rfl, ?_, below_setRow hB2 (Nat.le_refl _) _⟩
        rw [HT.out]
        exact ⟨rfl, rfl, rfl⟩
  · rw [if_neg hbad] at HT
    have hsl := fun w => str_slice (P := Tryd.prog) 9 s i ((i : Int) + (n : Int)) (by omega) (by omega) (by omega) Tryd.underlying9 w
    rw [show ((i : Int) + (n : Int)).toNat = i + n by omega, Int.toNat_natCast, ext_take] at hsl
    have hlt : ((s.data.toList.drop i).take n).length = n := by rw [List.length_take, List.length_drop]; have := HZ.out; omega
    have hok := atoi_digits _ (by intro e; rw [e, List.length_nil] at hlt; omega) (by omega) hdig
    have hat := fun w => Tryd.strconv_Atoi_ok ⟨((s.data.toList.drop i).take n).toArray⟩ (by show ((s.data.toList.drop i).take n).toArray.size ≤ _; simp; omega) _ hok w
    generalize (numV ((s.data.toList.drop i).take n) : Int) = V at *
    generalize (s.data.toList.drop i).take n = tx at *
    have hat2 : ∀ w, Calls Tryd.prog 51 #[.string ⟨tx.toArray⟩] w (fun e w' => e = .returned (.tuple #[.int .i64 V, .nilIface]) ∧ Below w.heap.size w w') := fun w => (hat w).mono (fun e w' hh => ⟨hh.1, by
      rcases hh.2 with rfl | ⟨t, rfl⟩
      · exact Below.refl _ _
      · exact Lib.bytesWorld_below _ _ _⟩)
    have HAT := hid hat2
    have hI : ¬ 13 < (i : Int) + (n : Int) - (i : Int) := by omega
    have hI3 : ((a : Int) == 3) = false := by rw [beq_eq_false_iff_ne]; omega
    have hI5 : ((a : Int) == 5) = false := by rw [beq_eq_false_iff_ne]; omega
    clear hbad hdig hat hat2 hok hlt
    go_enter Tryd.func34, Tryd.ntmps34  ;go_wp2_with fail  ;obtain ⟨w0, hw0⟩ : ∃ w0 : World, w0 = w.alloc (.cells #[.int .i64 0, .string ⟨#[]⟩, .int .i64 0, .int .i64 0] 82) := ⟨_, rfl⟩  ;have hr0 : Blk w0 w.heap.size 82 [.int .i64 0, .string ⟨#[]⟩, .int .i64 0, .int .i64 0] := (by subst hw0; exact Blk.new _ _ _)  ;have hB0 : Below w.heap.size w w0 := (by subst hw0; exact below_alloc _ _)  ;have hscan0 : Scan w0 sb s := (by subst hw0; exact Blk.alloc h _)  ;rw [← hw0]  ;clear hw0  ;refine (HA.out w0 hscan0).mono ?_  ;rintro e w1 ⟨rfl, hch1⟩  ;have hr1 := hr0.chg hch1 (fun h => h)  ;have hB1 : Below w.heap.size w w1 := hB0.trans (hch1.toBelow hB0.size (fun _ h => h.elim))  ;have hscan1 : Scan w1 sb s := Blk.chg hscan0 hch1 (fun h => h)  ;have htx1 := hscan1.text  ;have hscan2 : Scan (w1.alloc (Obj.cells #[Value.int .i64 4] 3)) sb s := Blk.alloc hscan1 _  ;go_wp2_with fail  ;refine (HW.out _ _ 1 hscan2 (slv1 w1 3 4)).mono ?_  ;rintro e w2 ⟨rfl, hch2⟩  ;have hr2' := (hr1.alloc _).chg hch2 (fun h => h)  ;have hB2' : Below w.heap.size w w2 := hB1.trans (((below_alloc w1 _).trans (hch2.toBelow (by simp) (fun _ h => h.elim))).mono hB1.size)  ;have hscan3 : Scan w2 sb s := Blk.chg hscan2 hch2 (fun h => h)  ;go_wp2_with fail  ;refine (HA2.out _ hscan3).mono ?_  ;rintro e w3 ⟨rfl, hch3⟩  ;have hr3 := hr2'.chg hch3 (fun h => h)  ;have hB3 : Below w.heap.size w w3 := hB2'.trans (hch3.toBelow hB2'.size (fun _ h => h.elim))  ;have hscan4 : Scan w3 sb s := Blk.chg hscan3 hch3 (fun h => h)  ;have htx4 := hscan4.text  ;clear htx1
    go_wp2_with fail
    refine (HAT.out _).mono ?_
    rintro e w4 ⟨rfl, hB34⟩
    have hr2 := hr3.below hB34 hr3.lt
    have hB2 : Below w.heap.size w w4 := hB3.trans (hB34.mono hB3.size)
    have hscan5 : Scan w4 sb s := Blk.below hscan4 hB34 hscan4.lt
    have htx5 := hscan5.text
    clear htx4
    go_wp2_with (refine wpList_store_row rfl 82 _ _ rfl w.heap.size _ rfl rfl 82 _ hr2 (by kernel_rfl) rfl (by simp [Value.oneCell']) ?_)
    (try simp only [Exit.inBlock, Exit.then]); refine bodyPost_ret (results_row3 rfl _ _ w.heap.size 82 _ _ rfl (setRow_heap _ _ _ _ _ _ hr2) Tryd.underlying82 rfl (by kernel_rfl)) rfl ?_  ;refine ⟨_, _, _, rfl, ?_, below_setRow hB2 (Nat.le_refl _) _⟩
    rw [HT.out]
    exact ⟨rfl, by push_cast; rfl, rfl⟩
end Go.Proofs.YtogcnmjipfllaaaDoor
