/- lexer: the statement LexerPlaces -/
import Derived.Test.YtdnpglfmgbcjhaaDoorLexLaw5
import Derived.Test.YtdnpglfmgbcjhaaDoorLexSame
import Derived.Test.YtdnpglfmgbcjhaaDoorLexR5
import Derived.Test.YtdnpglfmgbcjhaaDoorRefGap
import Derived.Lib.QuietBelow
namespace Go.Proofs.YtdnpglfmgbcjhaaDoor
open Go.RowKit

theorem slice_both (s : ByteArray) (a b : Int) (h0 : 0 ≤ a) (h1 : a ≤ b) (h2 : b ≤ (s.size : Int)) (w : World) : (Instr.slice 9 (.string s) (some (.int .i64 a)) (some (.int .i64 b)) none).run Tryd.prog w = .ok (.string (s.extract a.toNat b.toNat)) w := by
  have h3 : 0 ≤ b := by omega
  unfold Instr.slice Instr.sliceBounds Instr.sliceBound
  simp [go_sem, h0, h2, h3]
  intro h5
  omega
theorem PL_at {l : List UInt8} {ts : List Tok} {q j : Nat} {t : Tok} (h : PL l q (ts.drop j)) (ht : ts[j]? = some t) :
    q ≤ t.at_ ∧ t.at_ + wlen t ≤ l.length ∧ GoodT t ∧ (l.drop t.at_).take (wlen t) = wrt t.k t.t ∧ gapL false ((l.take t.at_).drop q) = t.at_ - q ∧ PL l (t.at_ + wlen t) (ts.drop (j + 1)) := by
  rw [List.drop_eq_getElem_cons (List.getElem?_eq_some_iff.1 ht).1, (List.getElem?_eq_some_iff.1 ht).2] at h
  obtain ⟨h1, h2, h3, -, h5, h6, h7⟩ := h
  exact ⟨h1, h2, h3, h5, h6, h7⟩
theorem ext_list (s : ByteArray) (a b : Nat) : (s.extract a b).data.toList = (s.data.toList.take b).drop a := by
  simp only [ByteArray.data_extract, Array.toList_extract, List.extract_eq_take_drop, List.drop_take]
theorem str_neB {s : ByteArray} (h : 1 ≤ s.size) : ¬ s.toList = [] := by
  rw [ByteArray.toList_eq]
  intro e
  have : s.data.toList.length = 0 := by rw [e]; rfl
  rw [len_list] at this
  omega
theorem wid_len2 (t : Tok) : widT t = wlen t := by
  unfold widT wlen wrt; split <;> simp
theorem gaps_yes (s : ByteArray) (w : World) (hs : s.size ≤ 1000000) (h : gapL false s.data.toList = s.size) : Calls Tryd.prog 17 #[.string s] w fun e w' => e = .returned (.bool true) ∧ Below w.heap.size w w' := by
  have := rgaps_any s w hs
  rw [decide_eq_true h] at this
  exact this.mono (by rintro e w' ⟨rfl, rfl⟩; exact ⟨rfl, Below.refl _ _⟩)

set_option maxHeartbeats 2000000 in
set_option maxRecDepth 100000 in
theorem places_fin (s : ByteArray) (w : World) (_h0 : s.size ≤ maxLen) : Calls Tryd.prog 4 #[.string s] w fun e w' => e = .returned (.bool true) ∧ Below w.heap.size w w' := by
  have HH := hid (fun w => head_any w)
  by_cases hs : 3000 < s.size
  · go_enter Tryd.func4, Tryd.ntmps4  ;go_wp2_with fail  ;refine (HH.out _).mono ?_  ;rintro e w1 ⟨rfl, hB⟩  ;go_wp2_with fail
    go_ret
    exact ⟨ret_bool (by first | rfl | simp), hB⟩
  have H1 := hid (fun w => lex_short (s := s) (by omega) trip w)
  by_cases he : (lexR 0 s.data.toList).2.1 = 0
  · have hpl := lexR_places he
    obtain ⟨m1, m2⟩ := lexR_mem s.data.toList 0
    rw [len_list] at m2
    rw [he, lexR_zero _ 0 he] at H1
    clear he m1
    have hL := len_list s
    generalize (lexR 0 s.data.toList).1 = L at *
    have HPL := hid hpl
    have HLL := hid hL
    clear hpl hL
    generalize hN : L.length = len at *
    have hlen : len ≤ 3000 := by omega
    clear m2
    go_enter Tryd.func4, Tryd.ntmps4  ;go_wp2_with fail  ;refine (HH.out _).mono ?_  ;rintro e w1 ⟨rfl, hB⟩  ;go_wp2_with fail
    refine (H1.out _).mono ?_
    rintro e w2 ⟨ao, cap, rfl, hT, hB1⟩
    replace hB := hB.trans (hB1.mono hB.size)  ;clear hB1  ;go_wp2_with fail
    go_loopw [7, 8] (fun s7 s8 wr => ∃ j q : Nat, s8 = .int .i64 j ∧ s7 = .int .i64 q ∧ j ≤ len ∧ Hid (PL s.data.toList q (L.drop j)) ∧ Toks wr ao L ∧ Below w.heap.size w wr) (fun _ s8 _ => len - (intOf s8).toNat)
    case atStart => exact ⟨0, 0, rfl, rfl, by omega, HPL, hT, hB⟩
    case round =>
      clear hT hB HPL
      obtain ⟨j, q, rfl, rfl, hj, HP, hT, hB⟩ := hrel
      by_cases hjl : j < len
      · obtain ⟨t, ht⟩ : ∃ t, L[j]? = some t := ⟨_, List.getElem?_eq_getElem (by omega)⟩
        obtain ⟨p1, p2, p3, p4, p5, p6⟩ := PL_at HP.out ht
        rw [HLL.out, ← wid_len2] at p2
        rw [← wid_len2] at p4 p6
        have HP6 := hid p6
        have hE1 : s.extract t.at_ (t.at_ + widT t) = wrtT t := by
          apply str_extB
          rw [ext_list, List.drop_take]
          show _ = (wrt t.k t.t).toArray.toList
          have : t.at_ + widT t - t.at_ = widT t := by omega
          rw [this, p4]
        have hG : gapL false (s.extract q t.at_).data.toList = (s.extract q t.at_).size := by
          rw [ext_list, p5]
          show _ = (s.extract q t.at_).data.size
          rw [← Array.length_toList, ext_list, List.length_drop, List.length_take, HLL.out]
          omega
        have hgs : (s.extract q t.at_).size ≤ 1000000 := by
          rw [← len_list, ext_list, List.length_drop, List.length_take, HLL.out]; omega
        have hwl : (wrtT t).size = widT t := by
          rw [wid_len2]; show (wrt t.k t.t).toArray.size = _; rw [List.size_toArray]; rfl
        have hpos : 1 ≤ widT t := by rw [wid_len2]; exact p3.pos
        have htl := p3.len
        have hne := str_neB (s := wrtT t) (by omega)
        have hne2 : (wrtT t).toList.isEmpty = false := by cases h : (wrtT t).toList with | nil => exact absurd h hne | cons _ _ => rfl
        have sl1 := slice_both s t.at_ ((t.at_ : Int) + (widT t : Int)) (by omega) (by omega) (by omega)
        have sl2 := slice_both s q t.at_ (by omega) (by omega) (by omega)
        have e1 : ((t.at_ : Int) + (widT t : Int)).toNat = t.at_ + widT t := by omega
        have e2 : ((t.at_ : Int)).toNat = t.at_ := by omega
        have e3 : ((q : Int)).toNat = q := by omega
        rw [e1, e2, hE1] at sl1
        rw [e2, e3] at sl2
        have HW := hid (fun w => width_any t w (by omega))
        have HV := hid (fun w => written_any t w (by omega))
        have HG := hid (fun w => gaps_yes (s.extract q t.at_) w hgs hG)
        unfold tokW at HW HV
        clear e1 e2 e3 p3 p4 p5 p6 hG hgs hE1 HP
        generalize s.extract q t.at_ = G at *
        generalize wrtT t = V at *
        generalize widT t = W at *
        obtain ⟨bk, off, ea, hbk, a0, a1, a2, a3⟩ := hT.at ht
        subst ea
        have n1 : ¬ (t.at_ : Int) < (q : Int) := by omega
        have n2 : ¬ (s.size : Int) < (t.at_ : Int) + (W : Int) := by omega
        clear hbk
        go_wp2_with fail
        refine (HW.out _).mono ?_
        rintro e w3 ⟨rfl, hB3⟩
        replace hT := hT.below hB3
        replace hB := hB.trans (hB3.mono hB.size)
        clear hB3 a0 a1 a2 a3
        obtain ⟨_, _, eb, _, a0, a1, a2, a3⟩ := hT.at ht
        cases eb
        go_wp2_with fail
        have ka0 := cell_regrown a0
        have ka1 := cell_regrown a1
        have ka2 := cell_regrown a2
        have ka3 := cell_regrown a3
        have cW := hid (fun d os => Calls.regrown_of (HW.out (Go.Sort.grow (redrawn w3 d) os)))
        have cV := hid (fun d os => Calls.regrown_of (HV.out (Go.Sort.grow (redrawn w3 d) os)))
        have cG := hid (fun d os => Calls.regrown_of (HG.out (Go.Sort.grow (redrawn w3 d) os)))
        clear a0 a1 a2 a3
        refine wp_region_quiet_below (by kernel_rfl) (by kernel_rfl) ?_
        iterate 7 (first | go_big_quiet_step (fail) | quiet_step (fail))
        (first | go_big_quiet_step (exact cW.out _ _) | quiet_step (exact cW.out _ _))
        iterate 6 (first | go_big_quiet_step (fail) | quiet_step (fail))
        (first | go_big_quiet_step (exact cV.out _ _) | quiet_step (exact cV.out _ _))
        iterate 6 (first | go_big_quiet_step (fail) | quiet_step (fail))
        (first | go_big_quiet_step (exact cV.out _ _) | quiet_step (exact cV.out _ _))
        iterate 7 (first | go_big_quiet_step (fail) | quiet_step (fail))
        (first | go_big_quiet_step (exact cG.out _ _) | quiet_step (exact cG.out _ _))
        iterate 2 (first | go_big_quiet_step (fail) | quiet_step (fail))
        refine wpQuiet_nil ?_
        intro _ hw'
        obtain ⟨⟨dq, osq⟩, hw''⟩ := hw'
        subst hw''
        have hBr := below_regrown w3 dq osq
        replace hT := hT.below hBr
        replace hB := hB.trans (hBr.mono hB.size)
        clear hBr ka0 ka1 ka2 ka3 cW cV cG
        generalize Go.Sort.grow (redrawn w3 { d := dq, os := osq : Regrown }.d) { d := dq, os := osq : Regrown }.os = wz at *
        obtain ⟨_, _, eb, _, a0, a1, a2, a3⟩ := hT.at ht
        cases eb
        go_wp2_with fail
        refine (HW.out _).mono ?_
        rintro e w4 ⟨rfl, hB3⟩
        replace hT := hT.below hB3
        replace hB := hB.trans (hB3.mono hB.size)
        clear hB3 a0 a1 a2 a3 sl1 sl2 hne hne2
        go_wp2_with fail
        go_roundw
        case rel => exact ⟨j + 1, t.at_ + W, by go_num, by push_cast; rfl, by omega, HP6, hT, hB⟩
        case measure => simp [intOf]; omega
      · obtain rfl : j = len := by omega
        have hpl : PL s.data.toList q [] := by have := HP.out; rw [List.drop_of_length_le (by omega)] at this; exact this
        obtain ⟨hq1, hq2⟩ := hpl
        rw [HLL.out] at hq1
        have hG : gapL false (s.extract q s.size).data.toList = (s.extract q s.size).size := by
          rw [drop_list, hq2, ← drop_list, len_list]
        have hgs : (s.extract q s.size).size ≤ 1000000 := by
          rw [← len_list, drop_list, List.length_drop, HLL.out]; omega
        have HG := hid (fun w => gaps_yes (s.extract q s.size) w hgs hG)
        clear hq2 hG hgs HP
        go_wp2_with fail
        refine (HG.out _).mono ?_
        rintro e w4 ⟨rfl, hB1⟩
        replace hB := hB.trans (hB1.mono hB.size)  ;clear hB1  ;go_wp2_with fail
        go_ret
        exact ⟨ret_bool (by first | rfl | simp), hB⟩
  · have hnil := lexR_none _ 0 he
    obtain ⟨m, h1, h2, -, -⟩ := lexR_begin _ 0 he
    rw [hnil, h1, Nat.zero_add] at H1
    rw [len_list] at h2
    clear hnil h1
    generalize (lexR 0 s.data.toList).2.1 = e1 at *
    replace H1 : Hid (∀ w : World, Calls Tryd.prog 12 #[.string s] w fun en w' => ∃ ao cap, en = .returned (.tuple #[.slice ao 0 cap, .int .i64 e1, .int .i64 m]) ∧ Toks w' ao [] ∧ Below w.heap.size w w') := H1
    go_enter Tryd.func4, Tryd.ntmps4  ;go_wp2_with fail  ;refine (HH.out _).mono ?_  ;rintro e w1 ⟨rfl, hB⟩  ;go_wp2_with fail
    refine (H1.out _).mono ?_
    rintro e w2 ⟨ao, cap, rfl, -, hB1⟩
    replace hB := hB.trans (hB1.mono hB.size)  ;clear hB1  ;go_wp2_with fail
    go_ret
    exact ⟨ret_bool (by first | rfl | (simp; omega)), hB⟩
end Go.Proofs.YtdnpglfmgbcjhaaDoor
