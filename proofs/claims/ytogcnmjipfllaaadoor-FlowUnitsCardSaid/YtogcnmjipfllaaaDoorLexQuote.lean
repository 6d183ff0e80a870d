/- lexer: a text in quotes; the next token, all classes -/
import Derived.Test.YtogcnmjipfllaaaDoorLexAny
namespace Go.Proofs.YtogcnmjipfllaaaDoor
open Go.RowKit

theorem ext_take0 (l : List UInt8) (k : Nat) : (⟨l.toArray⟩ : ByteArray).extract 0 k = ⟨(l.take k).toArray⟩ := by
  have := ext_take ⟨l.toArray⟩ 0 k
  rw [Nat.zero_add] at this
  rw [this]; rfl


set_option maxHeartbeats 2000000 in
set_option maxRecDepth 100000 in
theorem next_quote (w : World) (sb : Nat) (s : ByteArray) (i : Nat) (h : Scan w sb s) (hs : s.size ≤ 20000) (hi : i < s.size) (hc : atC s.data.toList i = 6) :
    Calls Tryd.prog 34 #[.pointer (some ⟨sb, 0, none⟩), .int .i64 i] w (NextPost w s.data.toList i) := by
  have HZ := hid (Lib.size_eq s)
  have ha := fun w h => at_any w sb s i h (by omega) (by omega)
  rw [hc] at ha
  have HA := hid ha
  have ht : tok1 (s.data.toList.drop i) = if Lib.indexAny (s.data.toList.drop (i + 1)) [34, 10] < 0 ∨ (s.data.toList.drop (i + 1))[(Lib.indexAny (s.data.toList.drop (i + 1)) [34, 10]).toNat]? = some 10 then .err 6
     else if 400 < Lib.indexAny (s.data.toList.drop (i + 1)) [34, 10] then .err 2
     else .tok 3 ((s.data.toList.drop (i + 1)).take (Lib.indexAny (s.data.toList.drop (i + 1)) [34, 10]).toNat) 0 ((Lib.indexAny (s.data.toList.drop (i + 1)) [34, 10]).toNat + 2) := by
    unfold tok1; rw [if_neg (by rw [atC_drop, Nat.add_zero, hc]; decide), if_neg (by rw [atC_drop, Nat.add_zero, hc]; decide), if_pos (by rw [atC_drop]; exact hc), List.tail_drop]
  have hrs : (⟨(s.data.toList.drop (i + 1)).toArray⟩ : ByteArray).size = s.size - (i + 1) := drop_size s (i + 1) (by omega)
  have hx := fun w => any_ql ⟨(s.data.toList.drop (i + 1)).toArray⟩ w (by omega)
  dsimp only at hx
  have hlt := indexAny_lt [34, 10] (s.data.toList.drop (i + 1))
  have hge := Lib.indexAny_ge [34, 10] (s.data.toList.drop (i + 1))
  have hll : (s.data.toList.drop (i + 1)).length = s.size - (i + 1) := by rw [List.length_drop]; have := HZ.out; omega
  rw [hll] at hlt
  obtain ⟨l, hl⟩ : ∃ l, s.data.toList.drop (i + 1) = l := ⟨_, rfl⟩
  rw [hl] at ht hx hlt hge hrs hll
  have HL := hid hl
  obtain ⟨m, hm⟩ : ∃ m, Lib.indexAny l [34, 10] = m := ⟨_, rfl⟩
  rw [hm] at ht hx hlt hge
  have HX := hid hx
  have HT := hid ht
  have HRS := hid hrs
  have HLL := hid hll
  clear hx ht hl hm hc ha hrs hll
  have hI : (i : Int) + 1 ≤ (s.size : Int) := by omega
  by_cases hm0 : m < 0
  · rw [if_pos (.inl hm0)] at HT
    go_enter Tryd.func34, Tryd.ntmps34  ;go_wp2_with fail  ;obtain ⟨w0, hw0⟩ : ∃ w0 : World, w0 = w.alloc (.cells #[.int .i64 0, .string ⟨#[]⟩, .int .i64 0, .int .i64 0] 82) := ⟨_, rfl⟩  ;have hr0 : Blk w0 w.heap.size 82 [.int .i64 0, .string ⟨#[]⟩, .int .i64 0, .int .i64 0] := (by subst hw0; exact Blk.new _ _ _)  ;have hB0 : Below w.heap.size w w0 := (by subst hw0; exact below_alloc _ _)  ;have hscan0 : Scan w0 sb s := (by subst hw0; exact Blk.alloc h _)  ;rw [← hw0]  ;clear hw0  ;refine (HA.out w0 hscan0).mono ?_  ;rintro e w1 ⟨rfl, hch1⟩  ;have hr1 := hr0.chg hch1 (fun h => h)  ;have hB1 : Below w.heap.size w w1 := hB0.trans (hch1.toBelow hB0.size (fun _ h => h.elim))  ;have hscan1 : Scan w1 sb s := Blk.chg hscan0 hch1 (fun h => h)  ;have htx1 := hscan1.text  ;go_wp2_with fail  ;rw [drop_ext, HL.out]  ;refine (HX.out _).mono ?_  ;rintro e w2 ⟨rfl, hB12⟩  ;have hr2 := hr1.below hB12 hr1.lt  ;have hB2 : Below w.heap.size w w2 := hB1.trans (hB12.mono hB1.size)
    go_wp2_with (refine wpList_store_row rfl 82 _ _ rfl w.heap.size _ rfl rfl 82 _ hr2 (by kernel_rfl) rfl (by simp [Value.oneCell']) ?_)
    (try simp only [Exit.inBlock, Exit.then]); refine bodyPost_ret (results_row3 rfl _ _ w.heap.size 82 _ _ rfl (setRow_heap _ _ _ _ _ _ hr2) Tryd.underlying82 rfl (by kernel_rfl)) rfl ?_  ;refine ⟨_, _, _, rfl, ?_, below_setRow hB2 (Nat.le_refl _) _⟩
    rw [HT.out]
    exact ⟨rfl, rfl, rfl⟩
  · obtain ⟨k, rfl⟩ : ∃ k : Nat, m = k := ⟨m.toNat, by omega⟩
    rw [Int.toNat_natCast] at HT
    have hk : k < (⟨l.toArray⟩ : ByteArray).size := by have := HRS.out; omega
    obtain ⟨x, hx⟩ : ∃ x : UInt8, (⟨l.toArray⟩ : ByteArray)[k]'hk = x := ⟨_, rfl⟩
    have hxl : l[k]? = some x := by have := Lib.data_getElem? (⟨l.toArray⟩ : ByteArray) k hk; rw [hx] at this; simpa using this
    have hkI : (k : Int) < ((⟨l.toArray⟩ : ByteArray).size : Int) := by omega
    have hbd : (⟨l.toArray⟩ : ByteArray).size ≤ 20000 := by have := HRS.out; omega
    rw [hxl] at HT
    clear hxl
    cases h10 : (((x.toNat : Nat) : Int) == 10) with
    | true =>
      have e : x = 10 := by
        have h0 : ((x.toNat : Nat) : Int) = 10 := by simpa using h10
        have h1 : x.toNat = 10 := by omega
        exact UInt8.toNat_inj.1 h1
      rw [if_pos (.inr (by rw [e]))] at HT
      clear e
      go_enter Tryd.func34, Tryd.ntmps34  ;go_wp2_with fail  ;obtain ⟨w0, hw0⟩ : ∃ w0 : World, w0 = w.alloc (.cells #[.int .i64 0, .string ⟨#[]⟩, .int .i64 0, .int .i64 0] 82) := ⟨_, rfl⟩  ;have hr0 : Blk w0 w.heap.size 82 [.int .i64 0, .string ⟨#[]⟩, .int .i64 0, .int .i64 0] := (by subst hw0; exact Blk.new _ _ _)  ;have hB0 : Below w.heap.size w w0 := (by subst hw0; exact below_alloc _ _)  ;have hscan0 : Scan w0 sb s := (by subst hw0; exact Blk.alloc h _)  ;rw [← hw0]  ;clear hw0  ;refine (HA.out w0 hscan0).mono ?_  ;rintro e w1 ⟨rfl, hch1⟩  ;have hr1 := hr0.chg hch1 (fun h => h)  ;have hB1 : Below w.heap.size w w1 := hB0.trans (hch1.toBelow hB0.size (fun _ h => h.elim))  ;have hscan1 : Scan w1 sb s := Blk.chg hscan0 hch1 (fun h => h)  ;have htx1 := hscan1.text  ;go_wp2_with fail  ;rw [drop_ext, HL.out]  ;refine (HX.out _).mono ?_  ;rintro e w2 ⟨rfl, hB12⟩  ;have hr2 := hr1.below hB12 hr1.lt  ;have hB2 : Below w.heap.size w w2 := hB1.trans (hB12.mono hB1.size)
      go_wp2_with (refine wpList_store_row rfl 82 _ _ rfl w.heap.size _ rfl rfl 82 _ hr2 (by kernel_rfl) rfl (by simp [Value.oneCell']) ?_)
      (try simp only [Exit.inBlock, Exit.then]); refine bodyPost_ret (results_row3 rfl _ _ w.heap.size 82 _ _ rfl (setRow_heap _ _ _ _ _ _ hr2) Tryd.underlying82 rfl (by kernel_rfl)) rfl ?_  ;refine ⟨_, _, _, rfl, ?_, below_setRow hB2 (Nat.le_refl _) _⟩
      rw [HT.out]
      exact ⟨rfl, rfl, rfl⟩
    | false =>
      have e : x ≠ 10 := by rintro rfl; simp at h10
      rw [if_neg (by intro h; rcases h with h | h; exact hm0 h; exact e (Option.some.inj h))] at HT
      clear e
      by_cases h400 : (400 : Int) < k
      · rw [if_pos h400] at HT
        go_enter Tryd.func34, Tryd.ntmps34  ;go_wp2_with fail  ;obtain ⟨w0, hw0⟩ : ∃ w0 : World, w0 = w.alloc (.cells #[.int .i64 0, .string ⟨#[]⟩, .int .i64 0, .int .i64 0] 82) := ⟨_, rfl⟩  ;have hr0 : Blk w0 w.heap.size 82 [.int .i64 0, .string ⟨#[]⟩, .int .i64 0, .int .i64 0] := (by subst hw0; exact Blk.new _ _ _)  ;have hB0 : Below w.heap.size w w0 := (by subst hw0; exact below_alloc _ _)  ;have hscan0 : Scan w0 sb s := (by subst hw0; exact Blk.alloc h _)  ;rw [← hw0]  ;clear hw0  ;refine (HA.out w0 hscan0).mono ?_  ;rintro e w1 ⟨rfl, hch1⟩  ;have hr1 := hr0.chg hch1 (fun h => h)  ;have hB1 : Below w.heap.size w w1 := hB0.trans (hch1.toBelow hB0.size (fun _ h => h.elim))  ;have hscan1 : Scan w1 sb s := Blk.chg hscan0 hch1 (fun h => h)  ;have htx1 := hscan1.text  ;go_wp2_with fail  ;rw [drop_ext, HL.out]  ;refine (HX.out _).mono ?_  ;rintro e w2 ⟨rfl, hB12⟩  ;have hr2 := hr1.below hB12 hr1.lt  ;have hB2 : Below w.heap.size w w2 := hB1.trans (hB12.mono hB1.size)
        go_wp2_with (refine wpList_store_row rfl 82 _ _ rfl w.heap.size _ rfl rfl 82 _ hr2 (by kernel_rfl) rfl (by simp [Value.oneCell']) ?_)
        (try simp only [Exit.inBlock, Exit.then]); refine bodyPost_ret (results_row3 rfl _ _ w.heap.size 82 _ _ rfl (setRow_heap _ _ _ _ _ _ hr2) Tryd.underlying82 rfl (by kernel_rfl)) rfl ?_  ;refine ⟨_, _, _, rfl, ?_, below_setRow hB2 (Nat.le_refl _) _⟩
        rw [HT.out]
        exact ⟨rfl, rfl, rfl⟩
      · rw [if_neg h400] at HT
        go_enter Tryd.func34, Tryd.ntmps34  ;go_wp2_with fail  ;obtain ⟨w0, hw0⟩ : ∃ w0 : World, w0 = w.alloc (.cells #[.int .i64 0, .string ⟨#[]⟩, .int .i64 0, .int .i64 0] 82) := ⟨_, rfl⟩  ;have hr0 : Blk w0 w.heap.size 82 [.int .i64 0, .string ⟨#[]⟩, .int .i64 0, .int .i64 0] := (by subst hw0; exact Blk.new _ _ _)  ;have hB0 : Below w.heap.size w w0 := (by subst hw0; exact below_alloc _ _)  ;have hscan0 : Scan w0 sb s := (by subst hw0; exact Blk.alloc h _)  ;rw [← hw0]  ;clear hw0  ;refine (HA.out w0 hscan0).mono ?_  ;rintro e w1 ⟨rfl, hch1⟩  ;have hr1 := hr0.chg hch1 (fun h => h)  ;have hB1 : Below w.heap.size w w1 := hB0.trans (hch1.toBelow hB0.size (fun _ h => h.elim))  ;have hscan1 : Scan w1 sb s := Blk.chg hscan0 hch1 (fun h => h)  ;have htx1 := hscan1.text  ;go_wp2_with fail  ;rw [drop_ext, HL.out]  ;refine (HX.out _).mono ?_  ;rintro e w2 ⟨rfl, hB12⟩  ;have hr2 := hr1.below hB12 hr1.lt  ;have hB2 : Below w.heap.size w w2 := hB1.trans (hB12.mono hB1.size)
        go_wp2_with (refine wpList_store_row rfl 82 _ _ rfl w.heap.size _ rfl rfl 82 _ hr2 (by kernel_rfl) rfl (by simp [Value.oneCell']) ?_)
        (try simp only [Exit.inBlock, Exit.then]); refine bodyPost_ret (results_row3 rfl _ _ w.heap.size 82 _ _ rfl (setRow_heap _ _ _ _ _ _ hr2) Tryd.underlying82 rfl (by kernel_rfl)) rfl ?_  ;refine ⟨_, _, _, rfl, ?_, below_setRow hB2 (Nat.le_refl _) _⟩
        rw [HT.out, ext_take0]
        exact ⟨rfl, by push_cast; omega, rfl⟩

theorem next_any (w : World) (sb : Nat) (s : ByteArray) (i : Nat) (h : Scan w sb s) (hs : s.size ≤ 20000) (hi : i < s.size) :
    Calls Tryd.prog 34 #[.pointer (some ⟨sb, 0, none⟩), .int .i64 i] w (NextPost w s.data.toList i) := by
  have hle := atC_le s.data.toList i
  rcases (show atC s.data.toList i = 3 ∨ atC s.data.toList i = 4 ∨ atC s.data.toList i = 6 ∨ (atC s.data.toList i = 7 ∨ atC s.data.toList i = 8) ∨ atC s.data.toList i = 9 ∨ (atC s.data.toList i = 0 ∨ atC s.data.toList i = 1 ∨ atC s.data.toList i = 2 ∨ atC s.data.toList i = 5) by omega) with hc | hc | hc | hc | hc | hc
  · exact next_letter w sb s i h (by omega) hi hc
  · exact next_digit w sb s i h hs hi hc
  · exact next_quote w sb s i h hs hi hc
  · exact next_mark w sb s i _ h (by omega) hi rfl hc
  · exact next_symbol w sb s i h (by omega) hi hc
  · exact next_other w sb s i _ h (by omega) hi rfl hc
end Go.Proofs.YtogcnmjipfllaaaDoor
