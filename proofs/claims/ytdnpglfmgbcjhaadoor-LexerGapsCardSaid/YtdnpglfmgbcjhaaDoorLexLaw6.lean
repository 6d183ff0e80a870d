/- lexer: the statement LexerGaps -/
import Derived.Test.YtdnpglfmgbcjhaaDoorLexLaw5
import Derived.Test.YtdnpglfmgbcjhaaDoorLexSame
import Derived.Test.YtdnpglfmgbcjhaaDoorLexR6
import Derived.Test.YtdnpglfmgbcjhaaDoorRefGap
import Derived.Test.YtdnpglfmgbcjhaaDoorLibQ2
namespace Go.Proofs.YtdnpglfmgbcjhaaDoor
open Go.RowKit

theorem gaps_is (s : ByteArray) (r : Bool) (w : World) (hs : s.size ≤ 1000000) (h : decide (gapL false s.data.toList = s.size) = r) : Calls Tryd.prog 17 #[.string s] w fun e w' => e = .returned (.bool r) ∧ w = w' := by
  have := rgaps_any s w hs
  rw [h] at this
  exact this
theorem u16_bd {a : Int} (h : (Lit.int .u16 a).wf = true) : 0 ≤ a ∧ a ≤ 65535 := by
  simpa [Lit.wf, IntKind.min, IntKind.max, IntKind.signed, IntKind.bits] using h
theorem slice_hi (s : ByteArray) (b : Int) (h0 : 0 ≤ b) (h2 : b ≤ (s.size : Int)) (w : World) : (Instr.slice 9 (.string s) none (some (.int .i64 b)) none).run Tryd.prog w = .ok (.string (s.extract 0 b.toNat)) w := by
  unfold Instr.slice Instr.sliceBounds Instr.sliceBound
  simp [go_sem, h0, h2]
theorem slice_lo (s : ByteArray) (a : Int) (h0 : 0 ≤ a) (h2 : a ≤ (s.size : Int)) (w : World) : (Instr.slice 9 (.string s) (some (.int .i64 a)) none none).run Tryd.prog w = .ok (.string (s.extract a.toNat s.size)) w := by
  unfold Instr.slice Instr.sliceBounds Instr.sliceBound
  simp [go_sem, h0, h2]
theorem wid_len3 (t : Tok) : widT t = wlen t := by
  unfold widT wlen wrt; split <;> simp
/-- the text with the gaps, as the law lays it -/
def gapText (s G : ByteArray) (m : Nat) : ByteArray := (G ++ (⟨#[10]⟩ : ByteArray)) ++ s.extract 0 m ++ (G ++ (⟨#[10]⟩ : ByteArray)) ++ s.extract m s.size ++ (⟨#[10]⟩ : ByteArray) ++ G
theorem gapText_list (s G : ByteArray) (m : Nat) : (gapText s G m).data.toList = G.data.toList ++ 10 :: (s.data.toList.take m ++ (G.data.toList ++ 10 :: (s.data.toList.drop m ++ 10 :: G.data.toList))) := by
  have e1 := take_list s m
  have e2 := drop_list s m
  unfold gapText
  simp only [ByteArray.data_append, Array.toList_append, e1, e2]
  simp
theorem gapText_size (s G : ByteArray) (m : Nat) (hm : m ≤ s.size) (h1 : s.size ≤ 1500) (h2 : G.size ≤ 300) : (gapText s G m).size ≤ 5000 := by
  rw [← len_list, gapText_list]
  have := len_list s
  have := len_list G
  simp only [List.length_append, List.length_cons, List.length_take, List.length_drop]
  omega
theorem gap_lex {s G : ByteArray} {m : Nat} {L : List Tok} (h1 : s.size ≤ 1500) (h2 : G.size ≤ 300) (hG : gapL false G.data.toList = G.data.toList.length) (h0 : (lexR 0 s.data.toList).2.1 = 0) (hL : (lexR 0 s.data.toList).1 = L)
    (hm : (L = [] ∧ m = 0) ∨ ∃ (k : Nat) (t : Tok), L[k]? = some t ∧ m = t.at_ + wlen t) :
    m ≤ s.size ∧ ∃ M n, M.map stT = L.map stT ∧ ∀ w, Calls Tryd.prog 12 #[.string (gapText s G m)] w fun en w' => ∃ ao cap, en = .returned (.tuple #[.slice ao M.length cap, .int .i64 0, .int .i64 n]) ∧ Toks w' ao M ∧ Below w.heap.size w w' := by
  subst hL
  obtain ⟨a1, a2, a3⟩ := lexR_with_gaps hG h0 hm
  rw [len_list] at a1
  refine ⟨a1, (lexR 0 (gapText s G m).data.toList).1, (lexR 0 (gapText s G m).data.toList).2.2, ?_, fun w => ?_⟩
  · rw [gapText_list]; exact a3
  · have := lex_short (s := gapText s G m) (gapText_size s G m a1 h1 h2) trip w
    rw [gapText_list] at this
    rw [a2] at this
    rw [gapText_list]
    exact this

set_option maxHeartbeats 2000000 in
set_option maxRecDepth 100000 in
theorem gaps_fin (s G : ByteArray) (A : Int) (w : World) (_h0 : s.size ≤ maxLen) (_h1 : G.size ≤ maxLen) (h2 : (Lit.int .u16 A).wf = true) : Calls Tryd.prog 8 #[.string s, .string G, .int .u16 A] w fun e w' => e = .returned (.bool true) ∧ Below w.heap.size w w' := by
  have HH := hid (fun w => head_any w)
  have hA := u16_bd h2
  clear h2
  by_cases hs : 1500 < s.size
  · go_enter Tryd.func8, Tryd.ntmps8  ;go_wp2_with fail  ;refine (HH.out _).mono ?_  ;rintro e w1 ⟨rfl, hB⟩  ;go_wp2_with fail
    go_ret
    exact ⟨ret_bool (by first | rfl | simp), hB⟩
  by_cases hg : 300 < G.size
  · go_enter Tryd.func8, Tryd.ntmps8  ;go_wp2_with fail  ;refine (HH.out _).mono ?_  ;rintro e w1 ⟨rfl, hB⟩  ;go_wp2_with fail
    go_ret
    exact ⟨ret_bool (by first | rfl | simp), hB⟩
  by_cases hG : gapL false G.data.toList = G.size
  · have HG := hid (fun w => gaps_is G true w (by omega) (decide_eq_true hG))
    rw [← len_list] at hG
    have H1 := hid (fun w => lex_short (s := s) (by omega) trip w)
    by_cases he : (lexR 0 s.data.toList).2.1 = 0
    · rw [he] at H1
      obtain ⟨L, hL⟩ : ∃ L, (lexR 0 s.data.toList).1 = L := ⟨_, rfl⟩
      have hmem := lexR_mem s.data.toList 0
      rw [hL] at H1 hmem
      rw [len_list] at hmem
      by_cases hn : L = []
      · obtain ⟨hm, M, n2, hst, hlx⟩ := gap_lex (m := 0) (by omega) (by omega) hG he hL (.inl ⟨hn, rfl⟩)
        subst hn
        have hM : M = [] := by simpa using hst
        subst hM
        have HL2 := hid hlx
        have HK := hid (fun ao bo ca cb w hA hB => alike_yes ao bo ca cb [] [] w hA hB (by simp) rfl)
        have hl0 : ([] : List Tok).length = 0 := rfl
        rw [hl0] at H1 HL2 HK
        clear hlx hst hmem hG he hL hm
        generalize (lexR 0 s.data.toList).2.2 = n1 at *
        go_enter Tryd.func8, Tryd.ntmps8  ;go_wp2_with fail  ;refine (HH.out _).mono ?_  ;rintro e w1 ⟨rfl, hB⟩  ;go_wp2_with fail
        refine (HG.out _).mono ?_
        rintro e w' ⟨rfl, rfl⟩
        go_wp2_with fail
        refine (H1.out _).mono ?_
        rintro e w2 ⟨ao1, cap1, rfl, hT, hB1⟩
        replace hB := hB.trans (hB1.mono hB.size)
        clear hB1
        go_wp2_with fail
        have sl1 := slice_hi s 0 (by omega) (by omega)
        have sl2 := slice_lo s 0 (by omega) (by omega)
        have t1 : (s.extract 0 (0 : Int).toNat).size ≤ 1500 := by rw [ByteArray.size_extract]; omega
        have t2 : (s.extract (0 : Int).toNat s.size).size ≤ 1500 := by rw [ByteArray.size_extract]; omega
        have HL3 : Hid (∀ w : World, Calls Tryd.prog 12 #[.string ((G ++ (⟨#[10]⟩ : ByteArray)) ++ s.extract 0 (0 : Int).toNat ++ (G ++ (⟨#[10]⟩ : ByteArray)) ++ s.extract (0 : Int).toNat s.size ++ (⟨#[10]⟩ : ByteArray) ++ G)] w fun en w' => ∃ ao cap, en = .returned (.tuple #[.slice ao 0 cap, .int .i64 0, .int .i64 n2]) ∧ Toks w' ao [] ∧ Below w.heap.size w w') := HL2
        generalize s.extract 0 (0 : Int).toNat = T1 at *
        generalize s.extract (0 : Int).toNat s.size = T2 at *
        have hgz : G.size ≤ 300 := by omega
        refine wp_region_below_call 14 (by kernel_rfl) (by kernel_rfl) ?_
        simp only [List.take_succ_cons, List.take_zero, List.drop_succ_cons, List.drop_zero]
        iterate 14 (first | go_big_quiet_step (fail) | quiet_step (fail))
        refine wpQuiet_nil ?_
        intro _ hw'
        obtain ⟨⟨dr, osr⟩, hw''⟩ := hw'
        subst hw''
        have hBr := below_regrown w2 dr osr
        refine wpOp_call (by rfl) (by rfl) 82 (by rfl) 12 #[.string ((G ++ (⟨#[10]⟩ : ByteArray)) ++ T1 ++ (G ++ (⟨#[10]⟩ : ByteArray)) ++ T2 ++ (⟨#[10]⟩ : ByteArray) ++ G)] (by kernel_rfl) ?_
        refine (HL3.out _).mono ?_
        rintro e w5 ⟨ao5, cap5, rfl, hT5, hB5⟩
        refine ⟨_, rfl, ?_⟩
        have hBz := hBr.trans (hB5.mono hBr.size)
        replace hT := hT.below hBz
        replace hB := hB.trans (hBz.mono hB.size)
        clear hBr hBz hB5 sl1 sl2
        simp only [Act.put, List.setIfInBounds_toArray, List.set_cons_succ, List.set_cons_zero]
        repeat (go_big_quiet_step (fail))
        refine wpQuiet_end ?_
        go_wp2_with fail
        refine (HK.out _ _ _ _ _ hT hT5).mono ?_
        rintro e w6 ⟨rfl, hB1⟩
        replace hB := hB.trans (hB1.mono hB.size)
        clear hB1
        go_wp2_with fail
        go_ret
        exact ⟨ret_bool (by first | rfl | simp), hB⟩
      · obtain ⟨A', rfl⟩ : ∃ n : Nat, A = n := ⟨A.toNat, by omega⟩
        have hpos : 0 < L.length := List.length_pos_iff.2 hn
        obtain ⟨K, hKd⟩ : ∃ K, A' % L.length = K := ⟨_, rfl⟩
        have hKl : K < L.length := by rw [← hKd]; exact Nat.mod_lt _ hpos
        obtain ⟨t, ht⟩ : ∃ t, L[K]? = some t := ⟨_, List.getElem?_eq_getElem hKl⟩
        obtain ⟨hm, M, n2, hst, hlx⟩ := gap_lex (m := t.at_ + wlen t) (by omega) (by omega) hG he hL (.inr ⟨K, t, ht, rfl⟩)
        have htm := hmem.1 t (List.mem_of_getElem? ht)
        have htl := htm.2.len
        have hidx : ((A' : Nat) : Int) % (L.length : Int) = (K : Int) := by rw [← hKd]; push_cast; rfl
        have hidx2 : Int.tmod ((A' : Nat) : Int) (L.length : Int) = (K : Int) := by rw [Int.tmod_eq_emod_of_nonneg (by omega)]; exact hidx
        have hll : L.length ≤ 1500 := by omega
        rw [← wid_len3] at hm hlx
        have HL2 := hid hlx
        have HW := hid (fun w => width_any t w (by omega))
        unfold tokW at HW
        have HK := hid (fun ao bo ca cb w hA hB => alike_yes ao bo ca cb L M w hA hB (by omega) hst.symm)
        obtain ⟨hA1, hA2⟩ := hA
        clear hlx hst hmem hG he hL htm hKd hn
        generalize (lexR 0 s.data.toList).2.2 = n1 at *
        generalize hW : widT t = W at *
        have HWW := hid hW
        clear hW
        generalize hN1 : L.length = len at *
        generalize hN2 : M.length = len2 at *
        have hlenne : ¬ len = 0 := by omega
        have hleni : ¬ (len : Int) = 0 := by omega
        go_enter Tryd.func8, Tryd.ntmps8  ;go_wp2_with fail  ;refine (HH.out _).mono ?_  ;rintro e w1 ⟨rfl, hB⟩  ;go_wp2_with fail
        refine (HG.out _).mono ?_
        rintro e w' ⟨rfl, rfl⟩
        go_wp2_with fail
        refine (H1.out _).mono ?_
        rintro e w2 ⟨ao1, cap1, rfl, hT, hB1⟩
        replace hB := hB.trans (hB1.mono hB.size)
        clear hB1
        obtain ⟨bk, off, ea, hbk, a0, a1, a2, a3⟩ := hT.at ht
        subst ea
        clear hbk
        go_wp2_with fail
        obtain ⟨wa, hwa, htb, hB0⟩ := tok_world t.k t.t t.n t.at_ w2
        rw [hwa]
        clear hwa
        replace hT := hT.below hB0
        replace hB := hB.trans (hB0.mono hB.size)
        clear hB0 a0 a1 a2 a3 hidx hidx2
        have x0 := htb.cell 0
        have x1 := htb.cell 1
        have x2 := htb.cell 2
        have x3 := htb.cell 3
        simp only [List.getElem?_cons_succ, List.getElem?_cons_zero] at x0 x1 x2 x3
        have k0 := cell_regrown x0
        have k1 := cell_regrown x1
        have k2 := cell_regrown x2
        have k3 := cell_regrown x3
        have cW := hid (fun d os => Calls.regrown_of (HW.out (Go.Sort.grow (redrawn wa d) os)))
        clear x0 x1 x2 x3 htb
        generalize w2.heap.size = tb at *
        refine wp_region_quiet_below (by kernel_rfl) (by kernel_rfl) ?_
        iterate 3 (first | go_big_quiet_step (fail) | quiet_step (fail))
        (first | go_big_quiet_step (exact cW.out _ _) | quiet_step (exact cW.out _ _))
        iterate 2 (first | go_big_quiet_step (fail) | quiet_step (fail))
        refine wpQuiet_nil ?_
        intro _ hw'
        obtain ⟨⟨dq, osq⟩, hw''⟩ := hw'
        subst hw''
        have hBr := below_regrown wa dq osq
        replace hT := hT.below hBr
        replace hB := hB.trans (hBr.mono hB.size)
        clear hBr k0 k1 k2 k3 cW
        generalize Go.Sort.grow (redrawn wa { d := dq, os := osq : Regrown }.d) { d := dq, os := osq : Regrown }.os = wz at *
        have n2' : ¬ (s.size : Int) < (t.at_ : Int) + (W : Int) := by omega
        go_wp2_with fail
        have sl1 := slice_hi s ((t.at_ : Int) + (W : Int)) (by omega) (by omega)
        have sl2 := slice_lo s ((t.at_ : Int) + (W : Int)) (by omega) (by omega)
        have em : ((t.at_ : Int) + (W : Int)).toNat = t.at_ + W := by omega
        rw [em] at sl1 sl2
        have t1 : (s.extract 0 (t.at_ + W)).size ≤ 1500 := by rw [ByteArray.size_extract]; omega
        have t2 : (s.extract (t.at_ + W) s.size).size ≤ 1500 := by rw [ByteArray.size_extract]; omega
        have HL3 : Hid (∀ w : World, Calls Tryd.prog 12 #[.string ((G ++ (⟨#[10]⟩ : ByteArray)) ++ s.extract 0 (t.at_ + W) ++ (G ++ (⟨#[10]⟩ : ByteArray)) ++ s.extract (t.at_ + W) s.size ++ (⟨#[10]⟩ : ByteArray) ++ G)] w fun en w' => ∃ ao cap, en = .returned (.tuple #[.slice ao len2 cap, .int .i64 0, .int .i64 n2]) ∧ Toks w' ao M ∧ Below w.heap.size w w') := HL2
        clear em HL2
        generalize s.extract 0 (t.at_ + W) = T1 at *
        generalize s.extract (t.at_ + W) s.size = T2 at *
        have hgz : G.size ≤ 300 := by omega
        refine wp_region_below_call 14 (by kernel_rfl) (by kernel_rfl) ?_
        simp only [List.take_succ_cons, List.take_zero, List.drop_succ_cons, List.drop_zero]
        iterate 14 (first | go_big_quiet_step (fail) | quiet_step (fail))
        refine wpQuiet_nil ?_
        intro _ hw'
        obtain ⟨⟨dr, osr⟩, hw''⟩ := hw'
        subst hw''
        have hBr := below_regrown wz dr osr
        refine wpOp_call (by rfl) (by rfl) 82 (by rfl) 12 #[.string ((G ++ (⟨#[10]⟩ : ByteArray)) ++ T1 ++ (G ++ (⟨#[10]⟩ : ByteArray)) ++ T2 ++ (⟨#[10]⟩ : ByteArray) ++ G)] (by kernel_rfl) ?_
        refine (HL3.out _).mono ?_
        rintro e w5 ⟨ao5, cap5, rfl, hT5, hB5⟩
        refine ⟨_, rfl, ?_⟩
        have hBz := hBr.trans (hB5.mono hBr.size)
        replace hT := hT.below hBz
        replace hB := hB.trans (hBz.mono hB.size)
        clear hBr hBz hB5 sl1 sl2
        simp only [Act.put, List.setIfInBounds_toArray, List.set_cons_succ, List.set_cons_zero]
        repeat (go_big_quiet_step (fail))
        refine wpQuiet_end ?_
        go_wp2_with fail
        refine (HK.out _ _ _ _ _ hT hT5).mono ?_
        rintro e w6 ⟨rfl, hB1⟩
        replace hB := hB.trans (hB1.mono hB.size)
        clear hB1
        go_wp2_with fail
        go_ret
        exact ⟨ret_bool (by first | rfl | simp), hB⟩
    · generalize (lexR 0 s.data.toList).1 = L at *
      generalize (lexR 0 s.data.toList).2.1 = e1 at *
      generalize (lexR 0 s.data.toList).2.2 = n1 at *
      clear hG
      go_enter Tryd.func8, Tryd.ntmps8  ;go_wp2_with fail  ;refine (HH.out _).mono ?_  ;rintro e w1 ⟨rfl, hB⟩  ;go_wp2_with fail
      refine (HG.out _).mono ?_
      rintro e w' ⟨rfl, rfl⟩
      go_wp2_with fail
      refine (H1.out _).mono ?_
      rintro e w2 ⟨ao1, cap1, rfl, -, hB1⟩
      replace hB := hB.trans (hB1.mono hB.size)  ;clear hB1  ;go_wp2_with fail
      go_ret
      exact ⟨ret_bool (by first | rfl | simp), hB⟩
  · have HG := hid (fun w => gaps_is G false w (by omega) (decide_eq_false hG))
    clear hG
    go_enter Tryd.func8, Tryd.ntmps8  ;go_wp2_with fail  ;refine (HH.out _).mono ?_  ;rintro e w1 ⟨rfl, hB⟩  ;go_wp2_with fail
    refine (HG.out _).mono ?_
    rintro e w' ⟨rfl, rfl⟩
    go_wp2_with fail
    go_ret
    exact ⟨ret_bool (by first | rfl | simp), hB⟩
end Go.Proofs.YtdnpglfmgbcjhaaDoor
