/- the reference's next: a number -/
import Derived.Test.YtgkgpfennlkcnaaDoorRefNext
import Derived.Test.YtgkgpfennlkcnaaDoorLexR
namespace Go.Proofs.YtgkgpfennlkcnaaDoor
open Go.RowKit

theorem cls4 {b : UInt8} (h : cls b = 4) : 48 ≤ b.toNat ∧ b.toNat ≤ 57 := by
  have h2 := (clsN4 _ b.toNat_lt).1 h
  exact h2
theorem numV_app1 (l : List UInt8) (b : UInt8) : numV (l ++ [b]) = numV l * 10 + (b.toNat - 48) := by
  unfold numV; rw [List.foldl_append]; rfl
theorem numV_bd : ∀ (n : Nat) (l : List UInt8), l.length = n → (∀ b ∈ l, cls b = 4) → numV l < 10 ^ n
  | 0, l, h, _ => by rw [List.eq_nil_of_length_eq_zero h]; decide
  | n + 1, l, h, hd => by
    have hne : l ≠ [] := by intro e; subst e; simp at h
    obtain ⟨m, b, rfl⟩ : ∃ m b, l = m ++ [b] := ⟨l.dropLast, l.getLast hne, (List.dropLast_concat_getLast hne).symm⟩
    have ih := numV_bd n m (by simp at h; exact h) (fun c hc => hd c (by simp [hc]))
    have hb := cls4 (hd b (by simp))
    rw [numV_app1, Nat.pow_succ]
    omega

set_option maxHeartbeats 2000000 in
set_option maxRecDepth 100000 in
theorem rnext_digit (s : ByteArray) (i : Nat) (w : World) (hs : s.size ≤ 100000) (hi : i < s.size) (hc : atC s.data.toList i = 4) : Calls Tryd.prog 43 #[.string s, .int .i64 i] w fun e w' => e = .returned (RN (tok1 (s.data.toList.drop i)) i) ∧ Below w.heap.size w w' := by
  have HZ := hid (Lib.size_eq s)
  obtain ⟨b, hx⟩ : ∃ b, s[i]'hi = b := ⟨_, rfl⟩
  have hb : s.data.toList[i]? = some b := by rw [← hx]; exact Lib.data_getElem? s i hi
  have hcb : cls b = 4 := by rw [← atC_some hb]; exact hc
  obtain ⟨n, hn⟩ : ∃ n, spanC [4] (s.data.toList.drop i) = n := ⟨_, rfl⟩
  have hle := spanC_le [4] (s.data.toList.drop i)
  have hdig : ∀ c ∈ (s.data.toList.drop i).take n, cls c = 4 := by
    intro c hcm
    rw [← hn] at hcm
    have := spanC_mem c hcm
    simpa using this
  rw [List.length_drop, hn, ← HZ.out] at hle
  have hstep := spanC_step (cs := [4]) (l := s.data.toList) (k := i) (by rw [← HZ.out]; exact hi) (by rw [hc]; decide)
  rw [hn] at hstep
  have ht1 : tok1 (s.data.toList.drop i) = if 13 < n ∨ atC s.data.toList (i + n) = 3 ∨ atC s.data.toList (i + n) = 5 then .err 4 else .tok 2 ((s.data.toList.drop i).take n) (numV ((s.data.toList.drop i).take n)) n := by
    have h0 : atC (s.data.toList.drop i) 0 = 4 := by rw [atC_drop]; exact hc
    unfold tok1
    rw [h0, if_neg (by decide), if_pos rfl, hn, atC_drop]
  have HT := hid ht1
  have HST := hid hstep
  have HDG := hid hdig
  have HL := hid (fun w => rlet_is b false w (decide_eq_false (by omega)))
  have HD := hid (fun w => rdig_is b true w (decide_eq_true hcb))
  clear ht1 hstep hn hcb hc hdig
  obtain ⟨R, HR⟩ : ∃ R, Hid (RN (tok1 (s.data.toList.drop i)) i = R) := ⟨_, hid rfl⟩
  rw [HR.out]
  go_enter Tryd.func43, Tryd.ntmps43
  go_wp2_with fail
  obtain ⟨w0, hw0, hr, ht, hB⟩ := next_world i w
  rw [hw0]
  clear hw0
  obtain ⟨tb, htbd⟩ : ∃ tb, w.heap.size + 1 = tb := ⟨_, rfl⟩
  rw [htbd] at ht ⊢
  have hne : w.heap.size ≠ tb := by omega
  have hle2 : w.heap.size ≤ tb := by omega
  clear htbd
  refine (HL.out _).mono ?_
  rintro e w' ⟨rfl, rfl⟩
  go_wp2_with fail
  refine (HD.out _).mono ?_
  rintro e w' ⟨rfl, rfl⟩
  go_wp2_with fail
  go_loopw [6] (fun s6 wr => ∃ m : Nat, s6 = .int .i64 m ∧ i + 1 ≤ m ∧ m ≤ s.size ∧ wr = w0 ∧ Hid (m + spanC [4] (s.data.toList.drop m) = i + n)) (fun s6 _ => s.size - (intOf s6).toNat)
  case atStart => exact ⟨i + 1, by push_cast; rfl, Nat.le_refl _, by omega, rfl, hid (by have := HST.out; omega)⟩
  case round =>
    obtain ⟨m, rfl, hm1, hm2, rfl, HM⟩ := hrel
    by_cases hml : m < s.size
    · obtain ⟨c, hy⟩ : ∃ c, s[m]'hml = c := ⟨_, rfl⟩
      have HC := hid (show s.data.toList[m]? = some c by rw [← hy]; exact Lib.data_getElem? s m hml)
      have hJ : (m : Int) < (s.size : Int) := by omega
      by_cases hcc : cls c = 4
      · have HW := hid (fun w => rdig_is c true w (decide_eq_true hcc))
        have HS2 := hid (spanC_step (cs := [4]) (l := s.data.toList) (k := m) (by rw [← HZ.out]; exact hml) (by rw [atC_some HC.out, hcc]; decide))
        clear hcc hx
        go_wp2_with fail
        refine (HW.out _).mono ?_
        rintro e w' ⟨rfl, rfl⟩
        go_wp2_with fail
        go_roundw
        case rel => exact ⟨m + 1, by go_num, by omega, by omega, trivial, hid (by have := HM.out; have := HS2.out; omega)⟩
        case measure => simp [intOf]; omega
      · have HW := hid (fun w => rdig_is c false w (decide_eq_false hcc))
        have hmn : m = i + n := by
          have := HM.out
          rw [spanC_stop (.inr (by rw [atC_some HC.out]; simp; exact hcc))] at this
          omega
        subst hmn
        have HAT := hid (atC_some HC.out)
        have HCC := hid hcc
        clear hcc hx
        go_wp2_with fail
        refine (HW.out _).mono ?_
        rintro e w' ⟨rfl, rfl⟩
        have q0 := ht.cell 0  ;have f0 := ht.free 0  ;simp only [List.getElem?_cons_zero] at q0  ;go_upto_region 14 with fail  ;replace ht := ht.set 0 (.int .i64 2)  ;replace hr := hr.other ⟨tb, 0, none⟩ hne (.int .i64 2)  ;replace hB := hB.setCell (p := ⟨tb, 0, none⟩) hle2 (.int .i64 2)  ;clear q0 f0  ;(generalize World.setCell _ _ _ = wq at *)  ;simp only [List.set] at ht
        by_cases hbig : 13 < n
        · have hR : R = .tuple #[tok0, .int .i64 4] := by rw [← HR.out, HT.out, if_pos (.inl hbig)]; rfl
          have hbI : 13 < ((i : Int) + (n : Int)) - (i : Int) := by omega
          subst hR  ;go_wp2_with (refine wpList_store_row rfl 68 _ _ rfl w.heap.size _ rfl rfl 68 _ hr (by kernel_rfl) rfl (by first | (simp [Value.oneCell']; done) | (simp [Value.oneCell', tok0C]; done)) ?_)  ;(try simp only [Exit.inBlock, Exit.then]); refine bodyPost_ret (results_row2r rfl _ _ w.heap.size 68 _ _ rfl (setRow_heap _ _ _ _ _ _ hr) Tryd.underlying68 rfl (by kernel_rfl)) rfl ?_  ;exact ⟨rfl, below_setRow hB (Nat.le_refl _) _⟩
        · have hbI : ¬ 13 < ((i : Int) + (n : Int)) - (i : Int) := by omega
          cases hwd : [3, 4, 5].contains (cls c) with
          | true =>
            have hR : R = .tuple #[tok0, .int .i64 4] := by
              have h35 : cls c = 3 ∨ cls c = 5 := by
                have := HCC.out
                simp at hwd; omega
              rw [← HR.out, HT.out, if_pos (.inr (by rw [HAT.out]; exact h35))]; rfl
            have HWD := hid (fun w => rword_is c true w hwd)
            clear hwd
            subst hR
            go_wp2_with fail
            refine (HWD.out _).mono ?_
            rintro e w' ⟨rfl, rfl⟩
            go_wp2_with (refine wpList_store_row rfl 68 _ _ rfl w.heap.size _ rfl rfl 68 _ hr (by kernel_rfl) rfl (by first | (simp [Value.oneCell']; done) | (simp [Value.oneCell', tok0C]; done)) ?_)
            (try simp only [Exit.inBlock, Exit.then]); refine bodyPost_ret (results_row2r rfl _ _ w.heap.size 68 _ _ rfl (setRow_heap _ _ _ _ _ _ hr) Tryd.underlying68 rfl (by kernel_rfl)) rfl ?_
            exact ⟨rfl, below_setRow hB (Nat.le_refl _) _⟩
          | false =>
            have hR : R = .tuple #[.agg #[.int .i64 2, .string ⟨((s.data.toList.drop i).take n).toArray⟩, .int .i64 (numV ((s.data.toList.drop i).take n)), .int .i64 i], .int .i64 0] := by
              have h35 : ¬ (cls c = 3 ∨ cls c = 5) := by simp at hwd; omega
              rw [← HR.out, HT.out, if_neg (by rw [HAT.out]; rintro (h | h) <;> first | exact hbig h | exact h35 h)]; rfl
            have HWD := hid (fun w => rword_is c false w hwd)
            clear hwd
            subst hR
            go_wp2_with fail
            refine (HWD.out _).mono ?_
            rintro e w' ⟨rfl, rfl⟩
            go_wp2_with fail
            clear HWD HAT HCC hml hJ HC hy
            go_loopw [9] (fun s9 wx => ∃ p : Nat, s9 = .int .i64 p ∧ i ≤ p ∧ p ≤ i + n ∧ Blk wx tb 68 [.int .i64 2, .string ⟨#[]⟩, .int .i64 (numV ((s.data.toList.drop i).take (p - i))), .int .i64 i] ∧ Blk wx w.heap.size 68 tok0C ∧ Below w.heap.size w wx) (fun s9 _ => i + n - (intOf s9).toNat)  ;(case atStart => exact ⟨i, rfl, Nat.le_refl _, by omega, by rw [Nat.sub_self]; exact ht, hr, hB⟩)
            case round =>
              clear ht hr hB
              obtain ⟨p, rfl, hp1, hp2, ht, hr, hB⟩ := hrel
              by_cases hpn : p < i + n
              · have hps : p < s.size := by omega
                obtain ⟨d, hd⟩ : ∃ d, s[p]'hps = d := ⟨_, rfl⟩
                have hdl : s.data.toList[p]? = some d := by rw [← hd]; exact Lib.data_getElem? s p hps
                have htk : (s.data.toList.drop i).take (p + 1 - i) = (s.data.toList.drop i).take (p - i) ++ [d] := by
                  have e : p + 1 - i = (p - i) + 1 := by omega
                  rw [e, List.take_add_one, List.getElem?_drop]
                  have : i + (p - i) = p := by omega
                  rw [this, hdl]; rfl
                have hd4 : cls d = 4 := HDG.out d (by
                  have e : (s.data.toList.drop i).take n = (s.data.toList.drop i).take (p + 1 - i) ++ ((s.data.toList.drop i).drop (p + 1 - i)).take (n - (p + 1 - i)) := by
                    rw [← List.take_add]; congr 1; omega
                  rw [e, htk]; simp)
                obtain ⟨d48, d57⟩ := cls4 hd4
                have hNb : numV ((s.data.toList.drop i).take (p - i)) < 10 ^ 13 := by
                  have hl : ((s.data.toList.drop i).take (p - i)).length = p - i := by rw [List.length_take, List.length_drop, ← HZ.out]; omega
                  have h1 := numV_bd (p - i) _ hl (fun c hcm => HDG.out c (by
                    have e : (s.data.toList.drop i).take n = (s.data.toList.drop i).take (p - i) ++ ((s.data.toList.drop i).drop (p - i)).take (n - (p - i)) := by
                      rw [← List.take_add]; congr 1; omega
                    rw [e]; exact List.mem_append.2 (.inl hcm)))
                  have h2 : 10 ^ (p - i) ≤ 10 ^ 13 := Nat.pow_le_pow_right (by omega) (by omega)
                  omega
                have HNV := hid (show ((numV ((s.data.toList.drop i).take (p + 1 - i)) : Nat) : Int) = 10 * (numV ((s.data.toList.drop i).take (p - i)) : Int) + ((d.toNat : Int) - 48) by
                  rw [htk, numV_app1]; push_cast; omega)
                have hpI : (p : Int) < (i : Int) + (n : Int) := by omega
                have hpS : (p : Int) < (s.size : Int) := by omega
                clear htk hd4 hdl
                generalize numV ((s.data.toList.drop i).take (p - i)) = N0 at *
                have q2 := ht.cell 2
                have f2 := ht.free 2
                simp only [List.getElem?_cons_succ, List.getElem?_cons_zero] at q2
                go_wp2_with fail
                refine wp_region_quiet_tail 10 (by kernel_rfl) (by kernel_rfl) ?_
                simp only [List.take_succ_cons, List.take_zero, List.drop_succ_cons, List.drop_zero]
                iterate 10 (go_big_quiet_step (fail))
                refine wpQuiet_end ?_
                go_wp2_with fail
                go_roundw
                case rel =>
                  have h1 := ht.drew.set 2 (.int .i64 (10 * (N0 : Int) + ((d.toNat : Int) - 48)))
                  simp only [List.set] at h1
                  rw [← HNV.out] at h1
                  refine ⟨p + 1, by go_num, by omega, by omega, ?_, ?_, ?_⟩
                  · rw [HNV.out] at h1 ⊢; exact h1
                  · exact hr.drew.other ⟨tb, 2, none⟩ hne _
                  · exact hB.drew.setCell (p := ⟨tb, 2, none⟩) hle2 _
                case measure => simp [intOf]; omega
              · obtain rfl : p = i + n := by omega
                have epn : i + n - i = n := by omega
                rw [epn] at ht
                have hpI : ¬ ((i : Int) + (n : Int)) < (i : Int) + (n : Int) := by omega
                have sl := fun w => str_slice (P := Tryd.prog) 9 s i ((i : Int) + (n : Int)) (by omega) (by omega) (by omega) Tryd.underlying9 w
                have em1 : ((i : Int)).toNat = i := by omega
                have em2 : ((i : Int) + (n : Int)).toNat = i + n := by omega
                rw [em1, em2, ext_take] at sl
                clear em1 em2
                obtain ⟨T, hTT⟩ : ∃ T : ByteArray, ⟨((s.data.toList.drop i).take n).toArray⟩ = T := ⟨_, rfl⟩
                rw [hTT] at sl
                have HTT := hid hTT
                clear hTT
                have q1 := ht.cell 1
                have f1 := ht.free 1
                simp only [List.getElem?_cons_succ, List.getElem?_cons_zero] at q1
                go_upto_region 34 with fail
                replace ht := ht.set 1 (.string T)
                replace hr := hr.other ⟨tb, 1, none⟩ hne (.string T)
                replace hB := hB.setCell (p := ⟨tb, 1, none⟩) hle2 (.string T)
                clear q1 f1 sl
                generalize World.setCell _ _ _ = wq2 at *
                simp only [List.set] at ht
                go_wp2_with (first | (refine wpList_load_row rfl 68 _ rfl tb rfl 68 _ (0, 0) _ ht Tryd.underlying68 rfl (by kernel_rfl) ?_) | (refine wpList_store_row rfl 68 _ _ rfl w.heap.size _ rfl rfl 68 _ hr (by kernel_rfl) rfl (by first | (simp [Value.oneCell']; done) | (simp [Value.oneCell', tok0C]; done)) ?_))
                (try simp only [Exit.inBlock, Exit.then]); refine bodyPost_ret (results_row2r rfl _ _ w.heap.size 68 _ _ rfl (setRow_heap _ _ _ _ _ _ hr) Tryd.underlying68 rfl (by kernel_rfl)) rfl ?_
                refine ⟨?_, below_setRow hB (Nat.le_refl _) _⟩
                rw [HTT.out]
                rfl
    · have hJ : ¬ (m : Int) < (s.size : Int) := by omega
      have hmn : m = i + n := by
        have := HM.out
        rw [spanC_stop (.inl (by rw [← HZ.out]; omega))] at this
        omega
      subst hmn
      have hat : atC s.data.toList (i + n) = 0 := atC_none (by rw [← HZ.out]; omega)
      have HAT := hid hat
      clear hx hat
      have q0 := ht.cell 0  ;have f0 := ht.free 0  ;simp only [List.getElem?_cons_zero] at q0  ;go_upto_region 14 with fail  ;replace ht := ht.set 0 (.int .i64 2)  ;replace hr := hr.other ⟨tb, 0, none⟩ hne (.int .i64 2)  ;replace hB := hB.setCell (p := ⟨tb, 0, none⟩) hle2 (.int .i64 2)  ;clear q0 f0  ;(generalize World.setCell _ _ _ = wq at *)  ;simp only [List.set] at ht
      by_cases hbig : 13 < n
      · have hR : R = .tuple #[tok0, .int .i64 4] := by rw [← HR.out, HT.out, if_pos (.inl hbig)]; rfl
        have hbI : 13 < ((i : Int) + (n : Int)) - (i : Int) := by omega
        subst hR  ;go_wp2_with (refine wpList_store_row rfl 68 _ _ rfl w.heap.size _ rfl rfl 68 _ hr (by kernel_rfl) rfl (by first | (simp [Value.oneCell']; done) | (simp [Value.oneCell', tok0C]; done)) ?_)  ;(try simp only [Exit.inBlock, Exit.then]); refine bodyPost_ret (results_row2r rfl _ _ w.heap.size 68 _ _ rfl (setRow_heap _ _ _ _ _ _ hr) Tryd.underlying68 rfl (by kernel_rfl)) rfl ?_  ;exact ⟨rfl, below_setRow hB (Nat.le_refl _) _⟩
      · have hbI : ¬ 13 < ((i : Int) + (n : Int)) - (i : Int) := by omega
        have hR : R = .tuple #[.agg #[.int .i64 2, .string ⟨((s.data.toList.drop i).take n).toArray⟩, .int .i64 (numV ((s.data.toList.drop i).take n)), .int .i64 i], .int .i64 0] := by
          rw [← HR.out, HT.out, if_neg (by rw [HAT.out]; rintro (h | h | h) <;> omega)]; rfl
        subst hR
        go_wp2_with fail
        clear HAT hJ
        go_loopw [9] (fun s9 wx => ∃ p : Nat, s9 = .int .i64 p ∧ i ≤ p ∧ p ≤ i + n ∧ Blk wx tb 68 [.int .i64 2, .string ⟨#[]⟩, .int .i64 (numV ((s.data.toList.drop i).take (p - i))), .int .i64 i] ∧ Blk wx w.heap.size 68 tok0C ∧ Below w.heap.size w wx) (fun s9 _ => i + n - (intOf s9).toNat)  ;(case atStart => exact ⟨i, rfl, Nat.le_refl _, by omega, by rw [Nat.sub_self]; exact ht, hr, hB⟩)
        case round =>
          clear ht hr hB
          obtain ⟨p, rfl, hp1, hp2, ht, hr, hB⟩ := hrel
          by_cases hpn : p < i + n
          · have hps : p < s.size := by omega
            obtain ⟨d, hd⟩ : ∃ d, s[p]'hps = d := ⟨_, rfl⟩
            have hdl : s.data.toList[p]? = some d := by rw [← hd]; exact Lib.data_getElem? s p hps
            have htk : (s.data.toList.drop i).take (p + 1 - i) = (s.data.toList.drop i).take (p - i) ++ [d] := by
              have e : p + 1 - i = (p - i) + 1 := by omega
              rw [e, List.take_add_one, List.getElem?_drop]
              have : i + (p - i) = p := by omega
              rw [this, hdl]; rfl
            have hd4 : cls d = 4 := HDG.out d (by
              have e : (s.data.toList.drop i).take n = (s.data.toList.drop i).take (p + 1 - i) ++ ((s.data.toList.drop i).drop (p + 1 - i)).take (n - (p + 1 - i)) := by
                rw [← List.take_add]; congr 1; omega
              rw [e, htk]; simp)
            obtain ⟨d48, d57⟩ := cls4 hd4
            have hNb : numV ((s.data.toList.drop i).take (p - i)) < 10 ^ 13 := by
              have hl : ((s.data.toList.drop i).take (p - i)).length = p - i := by rw [List.length_take, List.length_drop, ← HZ.out]; omega
              have h1 := numV_bd (p - i) _ hl (fun c hcm => HDG.out c (by
                have e : (s.data.toList.drop i).take n = (s.data.toList.drop i).take (p - i) ++ ((s.data.toList.drop i).drop (p - i)).take (n - (p - i)) := by
                  rw [← List.take_add]; congr 1; omega
                rw [e]; exact List.mem_append.2 (.inl hcm)))
              have h2 : 10 ^ (p - i) ≤ 10 ^ 13 := Nat.pow_le_pow_right (by omega) (by omega)
              omega
            have HNV := hid (show ((numV ((s.data.toList.drop i).take (p + 1 - i)) : Nat) : Int) = 10 * (numV ((s.data.toList.drop i).take (p - i)) : Int) + ((d.toNat : Int) - 48) by
              rw [htk, numV_app1]; push_cast; omega)
            have hpI : (p : Int) < (i : Int) + (n : Int) := by omega
            have hpS : (p : Int) < (s.size : Int) := by omega
            clear htk hd4 hdl
            generalize numV ((s.data.toList.drop i).take (p - i)) = N0 at *
            have q2 := ht.cell 2
            have f2 := ht.free 2
            simp only [List.getElem?_cons_succ, List.getElem?_cons_zero] at q2
            go_wp2_with fail
            refine wp_region_quiet_tail 10 (by kernel_rfl) (by kernel_rfl) ?_
            simp only [List.take_succ_cons, List.take_zero, List.drop_succ_cons, List.drop_zero]
            iterate 10 (go_big_quiet_step (fail))
            refine wpQuiet_end ?_
            go_wp2_with fail
            go_roundw
            case rel =>
              have h1 := ht.drew.set 2 (.int .i64 (10 * (N0 : Int) + ((d.toNat : Int) - 48)))
              simp only [List.set] at h1
              rw [← HNV.out] at h1
              refine ⟨p + 1, by go_num, by omega, by omega, ?_, ?_, ?_⟩
              · rw [HNV.out] at h1 ⊢; exact h1
              · exact hr.drew.other ⟨tb, 2, none⟩ hne _
              · exact hB.drew.setCell (p := ⟨tb, 2, none⟩) hle2 _
            case measure => simp [intOf]; omega
          · obtain rfl : p = i + n := by omega
            have epn : i + n - i = n := by omega
            rw [epn] at ht
            have hpI : ¬ ((i : Int) + (n : Int)) < (i : Int) + (n : Int) := by omega
            have sl := fun w => str_slice (P := Tryd.prog) 9 s i ((i : Int) + (n : Int)) (by omega) (by omega) (by omega) Tryd.underlying9 w
            have em1 : ((i : Int)).toNat = i := by omega
            have em2 : ((i : Int) + (n : Int)).toNat = i + n := by omega
            rw [em1, em2, ext_take] at sl
            clear em1 em2
            obtain ⟨T, hTT⟩ : ∃ T : ByteArray, ⟨((s.data.toList.drop i).take n).toArray⟩ = T := ⟨_, rfl⟩
            rw [hTT] at sl
            have HTT := hid hTT
            clear hTT
            have q1 := ht.cell 1
            have f1 := ht.free 1
            simp only [List.getElem?_cons_succ, List.getElem?_cons_zero] at q1
            go_upto_region 34 with fail
            replace ht := ht.set 1 (.string T)
            replace hr := hr.other ⟨tb, 1, none⟩ hne (.string T)
            replace hB := hB.setCell (p := ⟨tb, 1, none⟩) hle2 (.string T)
            clear q1 f1 sl
            generalize World.setCell _ _ _ = wq2 at *
            simp only [List.set] at ht
            go_wp2_with (first | (refine wpList_load_row rfl 68 _ rfl tb rfl 68 _ (0, 0) _ ht Tryd.underlying68 rfl (by kernel_rfl) ?_) | (refine wpList_store_row rfl 68 _ _ rfl w.heap.size _ rfl rfl 68 _ hr (by kernel_rfl) rfl (by first | (simp [Value.oneCell']; done) | (simp [Value.oneCell', tok0C]; done)) ?_))
            (try simp only [Exit.inBlock, Exit.then]); refine bodyPost_ret (results_row2r rfl _ _ w.heap.size 68 _ _ rfl (setRow_heap _ _ _ _ _ _ hr) Tryd.underlying68 rfl (by kernel_rfl)) rfl ?_
            refine ⟨?_, below_setRow hB (Nat.le_refl _) _⟩
            rw [HTT.out]
            rfl
end Go.Proofs.YtgkgpfennlkcnaaDoor
