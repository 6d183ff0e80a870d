/- the reference's next: symbols; joined -/
import Derived.Test.YtgkgpfennlkcnaaDoorRefNext2
import Derived.Test.YtgkgpfennlkcnaaDoorRefNext3
namespace Go.Proofs.YtgkgpfennlkcnaaDoor
open Go.RowKit

def anS : ByteArray := ⟨#[33, 60, 62, 61]⟩
def syS : ByteArray := ⟨#[59, 44, 46, 58, 40, 41, 91, 93, 123, 125, 61, 60, 62, 43, 45, 42, 47]⟩
theorem an_cls (b : UInt8) : anS.data.toList.contains b = decide (cls b = 7 ∨ cls b = 8) := by
  have h : ∀ n : Nat, n < 256 → (anS.data.toList.contains (UInt8.ofNat n) = decide (clsN n = 7 ∨ clsN n = 8)) := by decide +kernel
  have h2 := h b.toNat b.toNat_lt
  rw [UInt8.ofNat_toNat] at h2
  exact h2
theorem sy_cls (b : UInt8) : syS.data.toList.contains b = decide (cls b = 8 ∨ cls b = 9) := by
  have h : ∀ n : Nat, n < 256 → (syS.data.toList.contains (UInt8.ofNat n) = decide (clsN n = 8 ∨ clsN n = 9)) := by decide +kernel
  have h2 := h b.toNat b.toNat_lt
  rw [UInt8.ofNat_toNat] at h2
  exact h2
theorem an_is (b : UInt8) (r : Bool) (w : World) (h : decide (cls b = 7 ∨ cls b = 8) = r) : Calls Tryd.prog 48 #[.string ⟨#[33, 60, 62, 61]⟩, .int .u8 b.toNat] w fun e w' => e = .returned (.bool r) ∧ w = w' := by
  rw [← an_cls] at h; subst h; exact rhas_any _ b w (by decide)
theorem sy_is (b : UInt8) (r : Bool) (w : World) (h : decide (cls b = 8 ∨ cls b = 9) = r) : Calls Tryd.prog 48 #[.string ⟨#[59, 44, 46, 58, 40, 41, 91, 93, 123, 125, 61, 60, 62, 43, 45, 42, 47]⟩, .int .u8 b.toNat] w fun e w' => e = .returned (.bool r) ∧ w = w' := by
  rw [← sy_cls] at h; subst h; exact rhas_any _ b w (by decide)

/-- a symbol's first byte -/
structure SymB (s : ByteArray) (i : Nat) (b : UInt8) : Prop where
  get : ∃ h : i < s.size, s[i]'h = b
  at_ : s.data.toList[i]? = some b
  n3 : ¬ cls b = 3
  n4 : ¬ cls b = 4
  n6 : ¬ cls b = 6
theorem SymB.ne34 {s : ByteArray} {i : Nat} {b : UInt8} (h : SymB s i b) : ((b.toNat : Int) == 34) = false := by
  rw [beq_eq_false_iff_ne]
  intro e
  apply h.n6
  have : b = 34 := UInt8.toNat_inj.1 (by show b.toNat = 34; omega)
  rw [this]; decide
theorem SymB.tok {s : ByteArray} {i : Nat} {b : UInt8} (h : SymB s i b) : tok1 (s.data.toList.drop i) = if cls b = 7 ∨ cls b = 8 then (if (s.data.toList.drop (i + 1)).head? = some 61 then .tok 4 ((s.data.toList.drop i).take 2) 0 2 else if cls b = 7 then .err 3 else .tok 4 ((s.data.toList.drop i).take 1) 0 1)
    else if cls b = 9 then .tok 4 ((s.data.toList.drop i).take 1) 0 1 else .err 3 := by
  have h0 : atC (s.data.toList.drop i) 0 = cls b := by rw [atC_drop]; exact atC_some h.at_
  have ht : (s.data.toList.drop i).tail = s.data.toList.drop (i + 1) := by rw [List.tail_drop]
  unfold tok1
  rw [h0, if_neg h.n3, if_neg h.n4, if_neg h.n6, ht]
set_option maxHeartbeats 2000000 in
set_option maxRecDepth 100000 in
/-- no byte '=' behind it, or none that counts -/
theorem rnext_sym1 (s : ByteArray) (i : Nat) (b : UInt8) (w : World) (hs : s.size ≤ 100000) (h : SymB s i b) (hc : cls b = 9 ∨ (cls b ≠ 7 ∧ cls b ≠ 8 ∧ cls b ≠ 9)) : Calls Tryd.prog 43 #[.string s, .int .i64 i] w fun e w' => e = .returned (RN (tok1 (s.data.toList.drop i)) i) ∧ Below w.heap.size w w' := by
  obtain ⟨hi, hx⟩ := h.get
  have hbI := h.ne34
  have HT := hid h.tok
  have HL := hid (fun w => rlet_is b false w (decide_eq_false h.n3))
  have HD := hid (fun w => rdig_is b false w (decide_eq_false h.n4))
  have HA := hid (fun w => an_is b false w (decide_eq_false (by omega)))
  clear h
  obtain ⟨R, HR⟩ : ∃ R, Hid (RN (tok1 (s.data.toList.drop i)) i = R) := ⟨_, hid rfl⟩
  rw [HR.out]
  by_cases h9 : cls b = 9
  · have HS := hid (fun w => sy_is b true w (decide_eq_true (.inr h9)))
    have hR : R = .tuple #[.agg #[.int .i64 4, .string ⟨((s.data.toList.drop i).take 1).toArray⟩, .int .i64 0, .int .i64 i], .int .i64 0] := by rw [← HR.out, HT.out, if_neg (by omega), if_pos h9]; rfl
    clear hc h9
    subst hR
    have sl := fun w => str_slice (P := Tryd.prog) 9 s i ((i : Int) + 1) (by omega) (by omega) (by omega) Tryd.underlying9 w
    have em1 : ((i : Int)).toNat = i := by omega
    have em2 : ((i : Int) + 1).toNat = i + 1 := by omega
    rw [em1, em2, ext_take] at sl
    clear em1 em2
    go_enter Tryd.func43, Tryd.ntmps43  ;go_wp2_with fail  ;obtain ⟨w0, hw0, hr, ht, hB⟩ := next_world i w  ;rw [hw0]  ;clear hw0  ;obtain ⟨tb, htbd⟩ : ∃ tb, w.heap.size + 1 = tb := ⟨_, rfl⟩  ;rw [htbd] at ht ⊢  ;have hne : w.heap.size ≠ tb := (by omega)  ;have hle2 : w.heap.size ≤ tb := (by omega)  ;clear htbd  ;refine (HL.out _).mono ?_  ;rintro e w' ⟨rfl, rfl⟩  ;go_wp2_with fail  ;refine (HD.out _).mono ?_  ;rintro e w' ⟨rfl, rfl⟩  ;have q0 := ht.cell 0  ;have f0 := ht.free 0  ;simp only [List.getElem?_cons_zero] at q0  ;go_upto_region 29 with fail  ;replace ht := ht.set 0 (.int .i64 4)  ;replace hr := hr.other ⟨tb, 0, none⟩ hne (.int .i64 4)  ;replace hB := hB.setCell (p := ⟨tb, 0, none⟩) hle2 (.int .i64 4)  ;clear q0 f0  ;(generalize World.setCell _ _ _ = wq at *)  ;simp only [List.set] at ht
    go_wp2_with fail
    refine (HA.out _).mono ?_
    rintro e w' ⟨rfl, rfl⟩
    go_wp2_with fail
    refine (HS.out _).mono ?_
    rintro e w' ⟨rfl, rfl⟩
    obtain ⟨T, hTT⟩ : ∃ T : ByteArray, ⟨((s.data.toList.drop i).take 1).toArray⟩ = T := ⟨_, rfl⟩  ;rw [hTT] at sl  ;have HTT := hid hTT  ;clear hTT  ;have q1 := ht.cell 1  ;have f1 := ht.free 1  ;simp only [List.getElem?_cons_succ, List.getElem?_cons_zero] at q1  ;go_upto_region 34 with fail  ;replace ht := ht.set 1 (.string T)  ;replace hr := hr.other ⟨tb, 1, none⟩ hne (.string T)  ;replace hB := hB.setCell (p := ⟨tb, 1, none⟩) hle2 (.string T)  ;clear q1 f1 sl  ;(generalize World.setCell _ _ _ = wq2 at *)  ;simp only [List.set] at ht  ;go_wp2_with (first | (refine wpList_load_row rfl 68 _ rfl tb rfl 68 _ (0, 0) _ ht Tryd.underlying68 rfl (by kernel_rfl) ?_) | (refine wpList_store_row rfl 68 _ _ rfl w.heap.size _ rfl rfl 68 _ hr (by kernel_rfl) rfl (by first | (simp [Value.oneCell']; done) | (simp [Value.oneCell', tok0C]; done)) ?_))  ;(try simp only [Exit.inBlock, Exit.then]); refine bodyPost_ret (results_row2r rfl _ _ w.heap.size 68 _ _ rfl (setRow_heap _ _ _ _ _ _ hr) Tryd.underlying68 rfl (by kernel_rfl)) rfl ?_  ;refine ⟨?_, below_setRow hB (Nat.le_refl _) _⟩  ;rw [HTT.out]  ;rfl
  · have HS := hid (fun w => sy_is b false w (decide_eq_false (by omega)))
    have hR : R = .tuple #[tok0, .int .i64 3] := by rw [← HR.out, HT.out, if_neg (by omega), if_neg h9]; rfl
    clear hc h9
    subst hR
    go_enter Tryd.func43, Tryd.ntmps43  ;go_wp2_with fail  ;obtain ⟨w0, hw0, hr, ht, hB⟩ := next_world i w  ;rw [hw0]  ;clear hw0  ;obtain ⟨tb, htbd⟩ : ∃ tb, w.heap.size + 1 = tb := ⟨_, rfl⟩  ;rw [htbd] at ht ⊢  ;have hne : w.heap.size ≠ tb := (by omega)  ;have hle2 : w.heap.size ≤ tb := (by omega)  ;clear htbd  ;refine (HL.out _).mono ?_  ;rintro e w' ⟨rfl, rfl⟩  ;go_wp2_with fail  ;refine (HD.out _).mono ?_  ;rintro e w' ⟨rfl, rfl⟩  ;have q0 := ht.cell 0  ;have f0 := ht.free 0  ;simp only [List.getElem?_cons_zero] at q0  ;go_upto_region 29 with fail  ;replace ht := ht.set 0 (.int .i64 4)  ;replace hr := hr.other ⟨tb, 0, none⟩ hne (.int .i64 4)  ;replace hB := hB.setCell (p := ⟨tb, 0, none⟩) hle2 (.int .i64 4)  ;clear q0 f0  ;(generalize World.setCell _ _ _ = wq at *)  ;simp only [List.set] at ht
    go_wp2_with fail
    refine (HA.out _).mono ?_
    rintro e w' ⟨rfl, rfl⟩
    go_wp2_with fail
    refine (HS.out _).mono ?_
    rintro e w' ⟨rfl, rfl⟩
    go_wp2_with (refine wpList_store_row rfl 68 _ _ rfl w.heap.size _ rfl rfl 68 _ hr (by kernel_rfl) rfl (by first | (simp [Value.oneCell']; done) | (simp [Value.oneCell', tok0C]; done)) ?_)
    (try simp only [Exit.inBlock, Exit.then]); refine bodyPost_ret (results_row2r rfl _ _ w.heap.size 68 _ _ rfl (setRow_heap _ _ _ _ _ _ hr) Tryd.underlying68 rfl (by kernel_rfl)) rfl ?_
    exact ⟨rfl, below_setRow hB (Nat.le_refl _) _⟩
set_option maxHeartbeats 4000000 in
set_option maxRecDepth 100000 in
theorem rnext_sym2 (s : ByteArray) (i : Nat) (b : UInt8) (w : World) (hs : s.size ≤ 100000) (h : SymB s i b) (hc : cls b = 7 ∨ cls b = 8) : Calls Tryd.prog 43 #[.string s, .int .i64 i] w fun e w' => e = .returned (RN (tok1 (s.data.toList.drop i)) i) ∧ Below w.heap.size w w' := by
  obtain ⟨hi, hx⟩ := h.get
  have hbI := h.ne34
  have HT := hid h.tok
  have HC := hid hc
  have HL := hid (fun w => rlet_is b false w (decide_eq_false h.n3))
  have HD := hid (fun w => rdig_is b false w (decide_eq_false h.n4))
  have HA := hid (fun w => an_is b true w (decide_eq_true hc))
  clear h hc
  obtain ⟨R, HR⟩ : ∃ R, Hid (RN (tok1 (s.data.toList.drop i)) i = R) := ⟨_, hid rfl⟩
  rw [HR.out]
  go_enter Tryd.func43, Tryd.ntmps43  ;go_wp2_with fail  ;obtain ⟨w0, hw0, hr, ht, hB⟩ := next_world i w  ;rw [hw0]  ;clear hw0  ;obtain ⟨tb, htbd⟩ : ∃ tb, w.heap.size + 1 = tb := ⟨_, rfl⟩  ;rw [htbd] at ht ⊢  ;have hne : w.heap.size ≠ tb := (by omega)  ;have hle2 : w.heap.size ≤ tb := (by omega)  ;clear htbd  ;refine (HL.out _).mono ?_  ;rintro e w' ⟨rfl, rfl⟩  ;go_wp2_with fail  ;refine (HD.out _).mono ?_  ;rintro e w' ⟨rfl, rfl⟩  ;have q0 := ht.cell 0  ;have f0 := ht.free 0  ;simp only [List.getElem?_cons_zero] at q0  ;go_upto_region 29 with fail  ;replace ht := ht.set 0 (.int .i64 4)  ;replace hr := hr.other ⟨tb, 0, none⟩ hne (.int .i64 4)  ;replace hB := hB.setCell (p := ⟨tb, 0, none⟩) hle2 (.int .i64 4)  ;clear q0 f0  ;(generalize World.setCell _ _ _ = wq at *)  ;simp only [List.set] at ht
  by_cases hml : i + 1 < s.size
  · obtain ⟨c, hy⟩ : ∃ c, s[i + 1]'hml = c := ⟨_, rfl⟩
    have hcl : s.data.toList[i + 1]? = some c := by rw [← hy]; exact Lib.data_getElem? s (i + 1) hml
    have hhd : (s.data.toList.drop (i + 1)).head? = some c := by rw [List.head?_drop]; exact hcl
    have hJ : ((i : Int) + 1) < (s.size : Int) := by omega
    by_cases h61 : c.toNat = 61
    · have hc61 : c = 61 := UInt8.toNat_inj.1 h61
      have hR : R = .tuple #[.agg #[.int .i64 4, .string ⟨((s.data.toList.drop i).take 2).toArray⟩, .int .i64 0, .int .i64 i], .int .i64 0] := by
        rw [← HR.out, HT.out, if_pos HC.out, if_pos (by rw [hhd, hc61])]; rfl
      have h1 : ((c.toNat : Int) == 61) = true := by rw [h61]; rfl
      clear h61 hc61 hhd hcl
      subst hR
      go_wp2_with fail
      refine (HA.out _).mono ?_
      rintro e w' ⟨rfl, rfl⟩
      have sl := fun w => str_slice (P := Tryd.prog) 9 s i ((i : Int) + 1 + 1) (by omega) (by omega) (by omega) Tryd.underlying9 w
      have em1 : ((i : Int)).toNat = i := by omega
      have em2 : ((i : Int) + 1 + 1).toNat = i + 2 := by omega
      rw [em1, em2, ext_take] at sl
      clear em1 em2
      obtain ⟨T, hTT⟩ : ∃ T : ByteArray, ⟨((s.data.toList.drop i).take 2).toArray⟩ = T := ⟨_, rfl⟩  ;rw [hTT] at sl  ;have HTT := hid hTT  ;clear hTT  ;have q1 := ht.cell 1  ;have f1 := ht.free 1  ;simp only [List.getElem?_cons_succ, List.getElem?_cons_zero] at q1  ;go_upto_region 34 with fail  ;replace ht := ht.set 1 (.string T)  ;replace hr := hr.other ⟨tb, 1, none⟩ hne (.string T)  ;replace hB := hB.setCell (p := ⟨tb, 1, none⟩) hle2 (.string T)  ;clear q1 f1 sl  ;(generalize World.setCell _ _ _ = wq2 at *)  ;simp only [List.set] at ht  ;go_wp2_with (first | (refine wpList_load_row rfl 68 _ rfl tb rfl 68 _ (0, 0) _ ht Tryd.underlying68 rfl (by kernel_rfl) ?_) | (refine wpList_store_row rfl 68 _ _ rfl w.heap.size _ rfl rfl 68 _ hr (by kernel_rfl) rfl (by first | (simp [Value.oneCell']; done) | (simp [Value.oneCell', tok0C]; done)) ?_))  ;(try simp only [Exit.inBlock, Exit.then]); refine bodyPost_ret (results_row2r rfl _ _ w.heap.size 68 _ _ rfl (setRow_heap _ _ _ _ _ _ hr) Tryd.underlying68 rfl (by kernel_rfl)) rfl ?_  ;refine ⟨?_, below_setRow hB (Nat.le_refl _) _⟩  ;rw [HTT.out]  ;rfl
    · have h1 : ((c.toNat : Int) == 61) = false := by rw [beq_eq_false_iff_ne]; omega
      have hno : ¬ (s.data.toList.drop (i + 1)).head? = some 61 := by
        rw [hhd]; intro e; have : c = 61 := Option.some.inj e; exact h61 (by rw [this]; rfl)
      clear h61 hhd hcl
      go_wp2_with fail
      refine (HA.out _).mono ?_
      rintro e w' ⟨rfl, rfl⟩
      cases h8 : decide (cls b = 8 ∨ cls b = 9) with
      | true =>
        have HS := hid (fun w => sy_is b true w h8)
        have hR : R = .tuple #[.agg #[.int .i64 4, .string ⟨((s.data.toList.drop i).take 1).toArray⟩, .int .i64 0, .int .i64 i], .int .i64 0] := by
          have : cls b = 8 := by have := HC.out; simp at h8; omega
          rw [← HR.out, HT.out, if_pos HC.out, if_neg hno, if_neg (by omega)]; rfl
        clear h8 hno
        subst hR
        go_wp2_with fail
        refine (HS.out _).mono ?_
        rintro e w' ⟨rfl, rfl⟩
        have sl := fun w => str_slice (P := Tryd.prog) 9 s i ((i : Int) + 1) (by omega) (by omega) (by omega) Tryd.underlying9 w
        have em1 : ((i : Int)).toNat = i := by omega
        have em2 : ((i : Int) + 1).toNat = i + 1 := by omega
        rw [em1, em2, ext_take] at sl
        clear em1 em2
        obtain ⟨T, hTT⟩ : ∃ T : ByteArray, ⟨((s.data.toList.drop i).take 1).toArray⟩ = T := ⟨_, rfl⟩  ;rw [hTT] at sl  ;have HTT := hid hTT  ;clear hTT  ;have q1 := ht.cell 1  ;have f1 := ht.free 1  ;simp only [List.getElem?_cons_succ, List.getElem?_cons_zero] at q1  ;go_upto_region 34 with fail  ;replace ht := ht.set 1 (.string T)  ;replace hr := hr.other ⟨tb, 1, none⟩ hne (.string T)  ;replace hB := hB.setCell (p := ⟨tb, 1, none⟩) hle2 (.string T)  ;clear q1 f1 sl  ;(generalize World.setCell _ _ _ = wq2 at *)  ;simp only [List.set] at ht  ;go_wp2_with (first | (refine wpList_load_row rfl 68 _ rfl tb rfl 68 _ (0, 0) _ ht Tryd.underlying68 rfl (by kernel_rfl) ?_) | (refine wpList_store_row rfl 68 _ _ rfl w.heap.size _ rfl rfl 68 _ hr (by kernel_rfl) rfl (by first | (simp [Value.oneCell']; done) | (simp [Value.oneCell', tok0C]; done)) ?_))  ;(try simp only [Exit.inBlock, Exit.then]); refine bodyPost_ret (results_row2r rfl _ _ w.heap.size 68 _ _ rfl (setRow_heap _ _ _ _ _ _ hr) Tryd.underlying68 rfl (by kernel_rfl)) rfl ?_  ;refine ⟨?_, below_setRow hB (Nat.le_refl _) _⟩  ;rw [HTT.out]  ;rfl
      | false =>
        have HS := hid (fun w => sy_is b false w h8)
        have hR : R = .tuple #[tok0, .int .i64 3] := by
          have : cls b = 7 := by simp at h8; have := HC.out; omega
          rw [← HR.out, HT.out, if_pos HC.out, if_neg hno, if_pos this]; rfl
        clear h8 hno
        subst hR
        go_wp2_with fail
        refine (HS.out _).mono ?_
        rintro e w' ⟨rfl, rfl⟩
        go_wp2_with (refine wpList_store_row rfl 68 _ _ rfl w.heap.size _ rfl rfl 68 _ hr (by kernel_rfl) rfl (by first | (simp [Value.oneCell']; done) | (simp [Value.oneCell', tok0C]; done)) ?_)
        (try simp only [Exit.inBlock, Exit.then]); refine bodyPost_ret (results_row2r rfl _ _ w.heap.size 68 _ _ rfl (setRow_heap _ _ _ _ _ _ hr) Tryd.underlying68 rfl (by kernel_rfl)) rfl ?_
        exact ⟨rfl, below_setRow hB (Nat.le_refl _) _⟩
  · have hJ : ¬ ((i : Int) + 1) < (s.size : Int) := by omega
    have hno : ¬ (s.data.toList.drop (i + 1)).head? = some 61 := by
      rw [List.head?_drop, List.getElem?_eq_none (by have : s.data.toList.length = s.size := Array.length_toList
                                                     omega)]
      simp
    go_wp2_with fail
    refine (HA.out _).mono ?_
    rintro e w' ⟨rfl, rfl⟩
    cases h8 : decide (cls b = 8 ∨ cls b = 9) with
    | true =>
      have HS := hid (fun w => sy_is b true w h8)
      have hR : R = .tuple #[.agg #[.int .i64 4, .string ⟨((s.data.toList.drop i).take 1).toArray⟩, .int .i64 0, .int .i64 i], .int .i64 0] := by
        have : cls b = 8 := by have := HC.out; simp at h8; omega
        rw [← HR.out, HT.out, if_pos HC.out, if_neg hno, if_neg (by omega)]; rfl
      clear h8 hno
      subst hR
      go_wp2_with fail
      refine (HS.out _).mono ?_
      rintro e w' ⟨rfl, rfl⟩
      have sl := fun w => str_slice (P := Tryd.prog) 9 s i ((i : Int) + 1) (by omega) (by omega) (by omega) Tryd.underlying9 w
      have em1 : ((i : Int)).toNat = i := by omega
      have em2 : ((i : Int) + 1).toNat = i + 1 := by omega
      rw [em1, em2, ext_take] at sl
      clear em1 em2
      obtain ⟨T, hTT⟩ : ∃ T : ByteArray, ⟨((s.data.toList.drop i).take 1).toArray⟩ = T := ⟨_, rfl⟩  ;rw [hTT] at sl  ;have HTT := hid hTT  ;clear hTT  ;have q1 := ht.cell 1  ;have f1 := ht.free 1  ;simp only [List.getElem?_cons_succ, List.getElem?_cons_zero] at q1  ;go_upto_region 34 with fail  ;replace ht := ht.set 1 (.string T)  ;replace hr := hr.other ⟨tb, 1, none⟩ hne (.string T)  ;replace hB := hB.setCell (p := ⟨tb, 1, none⟩) hle2 (.string T)  ;clear q1 f1 sl  ;(generalize World.setCell _ _ _ = wq2 at *)  ;simp only [List.set] at ht  ;go_wp2_with (first | (refine wpList_load_row rfl 68 _ rfl tb rfl 68 _ (0, 0) _ ht Tryd.underlying68 rfl (by kernel_rfl) ?_) | (refine wpList_store_row rfl 68 _ _ rfl w.heap.size _ rfl rfl 68 _ hr (by kernel_rfl) rfl (by first | (simp [Value.oneCell']; done) | (simp [Value.oneCell', tok0C]; done)) ?_))  ;(try simp only [Exit.inBlock, Exit.then]); refine bodyPost_ret (results_row2r rfl _ _ w.heap.size 68 _ _ rfl (setRow_heap _ _ _ _ _ _ hr) Tryd.underlying68 rfl (by kernel_rfl)) rfl ?_  ;refine ⟨?_, below_setRow hB (Nat.le_refl _) _⟩  ;rw [HTT.out]  ;rfl
    | false =>
      have HS := hid (fun w => sy_is b false w h8)
      have hR : R = .tuple #[tok0, .int .i64 3] := by
        have : cls b = 7 := by simp at h8; have := HC.out; omega
        rw [← HR.out, HT.out, if_pos HC.out, if_neg hno, if_pos this]; rfl
      clear h8 hno
      subst hR
      go_wp2_with fail
      refine (HS.out _).mono ?_
      rintro e w' ⟨rfl, rfl⟩
      go_wp2_with (refine wpList_store_row rfl 68 _ _ rfl w.heap.size _ rfl rfl 68 _ hr (by kernel_rfl) rfl (by first | (simp [Value.oneCell']; done) | (simp [Value.oneCell', tok0C]; done)) ?_)
      (try simp only [Exit.inBlock, Exit.then]); refine bodyPost_ret (results_row2r rfl _ _ w.heap.size 68 _ _ rfl (setRow_heap _ _ _ _ _ _ hr) Tryd.underlying68 rfl (by kernel_rfl)) rfl ?_
      exact ⟨rfl, below_setRow hB (Nat.le_refl _) _⟩
theorem rnext_any (s : ByteArray) (i : Nat) (w : World) (hs : s.size ≤ 100000) (hi : i < s.size) : Calls Tryd.prog 43 #[.string s, .int .i64 i] w fun e w' => e = .returned (RN (tok1 (s.data.toList.drop i)) i) ∧ Below w.heap.size w w' := by
  have hb : s.data.toList[i]? = some (s[i]'hi) := Lib.data_getElem? s i hi
  have hat : atC s.data.toList i = cls (s[i]'hi) := atC_some hb
  by_cases h3 : cls (s[i]'hi) = 3
  · exact rnext_letter s i w hs hi (by rw [hat]; exact h3)
  by_cases h4 : cls (s[i]'hi) = 4
  · exact rnext_digit s i w hs hi (by rw [hat]; exact h4)
  by_cases h6 : cls (s[i]'hi) = 6
  · exact rnext_quote s i w hs hi (by rw [hat]; exact h6)
  have hS : SymB s i (s[i]'hi) := ⟨⟨hi, rfl⟩, hb, h3, h4, h6⟩
  by_cases h78 : cls (s[i]'hi) = 7 ∨ cls (s[i]'hi) = 8
  · exact rnext_sym2 s i _ w hs hS h78
  · exact rnext_sym1 s i _ w hs hS (by omega)
end Go.Proofs.YtgkgpfennlkcnaaDoor
