/- lexer: the statement LexerLongest -/
import Derived.Test.YtdnpglfmgbcjhaaDoorLexLaw5
import Derived.Test.YtdnpglfmgbcjhaaDoorLexSame
import Derived.Test.YtdnpglfmgbcjhaaDoorLexR5
import Derived.Test.YtdnpglfmgbcjhaaDoorLibQ2
namespace Go.Proofs.YtdnpglfmgbcjhaaDoor
open Go.RowKit

theorem two_lex {l : List UInt8} {q : Nat} {a b : Tok} {r : List Tok} (hp : PL l q (a :: b :: r)) (hd : a.at_ + wlen a = b.at_) (w : World) : Calls Tryd.prog 12 #[.string (wrtT a ++ wrtT b)] w fun en w' =>
    ∃ ao cap, en = .returned (.tuple #[.slice ao 2 cap, .int .i64 0, .int .i64 0]) ∧ Below w.heap.size w w' := by
  have g1 : (wrt a.k a.t).length ≤ 402 := by obtain ⟨-, -, g, -⟩ := hp; have := g.len; unfold wrt; split <;> simp <;> omega
  have g2 : (wrt b.k b.t).length ≤ 402 := by obtain ⟨-, -, -, -, -, -, h7⟩ := hp; obtain ⟨-, -, g, -⟩ := h7; have := g.len; unfold wrt; split <;> simp <;> omega
  have e : (wrtT a ++ wrtT b).data.toList = wrt a.k a.t ++ wrt b.k b.t := by simp [wrtT]
  refine (lex_short (s := wrtT a ++ wrtT b) (by rw [← len_list, e, List.length_append]; omega) ((congrArg (lexR 0) e).trans (lexR_two hp hd)) w).mono ?_
  rintro en w' ⟨ao, cap, rfl, -, hB⟩
  exact ⟨ao, cap, rfl, hB⟩
theorem PL_two {l : List UInt8} {ts : List Tok} {p j : Nat} {a b : Tok} (h : PL l p ts) (ha : ts[j]? = some a) (hb : ts[j + 1]? = some b) : ∃ q r, PL l q (a :: b :: r) := by
  obtain ⟨q, h1, -, -⟩ := PL_drop h ha
  refine ⟨q, ts.drop (j + 2), ?_⟩
  have : ts.drop (j + 1) = b :: ts.drop (j + 2) := by
    rw [List.drop_eq_getElem_cons (List.getElem?_eq_some_iff.1 hb).1, (List.getElem?_eq_some_iff.1 hb).2]
  rwa [this] at h1
theorem wrtT_size (t : Tok) (h : t.t.length ≤ 400) : (wrtT t).size ≤ 402 := by
  show (wrt t.k t.t).toArray.size ≤ _
  rw [List.size_toArray]
  unfold wrt; split
  · simp; omega
  · omega
theorem wid_len (t : Tok) : widT t = wlen t := by
  unfold widT wlen wrt; split <;> simp

set_option maxHeartbeats 1000000 in
set_option maxRecDepth 100000 in
theorem long_fin (s : ByteArray) (w : World) (_h0 : s.size ≤ maxLen) : Calls Tryd.prog 9 #[.string s] w fun e w' => e = .returned (.bool true) ∧ Below w.heap.size w w' := by
  have HH := hid (fun w => head_any w)
  by_cases hs : 3000 < s.size
  · go_enter Tryd.func9, Tryd.ntmps9  ;go_wp2_with fail  ;refine (HH.out _).mono ?_  ;rintro e w1 ⟨rfl, hB⟩  ;go_wp2_with fail
    go_ret
    exact ⟨ret_bool (by first | rfl | simp), hB⟩
  have H1 := hid (fun w => lex_short (s := s) (by omega) trip w)
  by_cases he : (lexR 0 s.data.toList).2.1 = 0
  · have hpl := lexR_places he
    obtain ⟨m1, m2⟩ := lexR_mem s.data.toList 0
    rw [len_list] at m1 m2
    rw [he] at H1
    clear he
    generalize (lexR 0 s.data.toList).1 = L at *
    generalize (lexR 0 s.data.toList).2.2 = n1 at *
    have HPL := hid hpl
    have HM := hid m1
    clear hpl m1
    generalize hN : L.length = len at *
    have hlen : len ≤ 3000 := by omega
    clear m2
    go_enter Tryd.func9, Tryd.ntmps9  ;go_wp2_with fail  ;refine (HH.out _).mono ?_  ;rintro e w1 ⟨rfl, hB⟩  ;go_wp2_with fail
    refine (H1.out _).mono ?_
    rintro e w2 ⟨ao, cap, rfl, hT, hB1⟩
    replace hB := hB.trans (hB1.mono hB.size)  ;clear hB1  ;go_wp2_with fail
    go_loopw [7] (fun s7 wr => ∃ j : Nat, s7 = .int .i64 ((j : Int) + 1) ∧ j ≤ len ∧ Toks wr ao L ∧ Below w.heap.size w wr) (fun s7 _ => len + 1 - (intOf s7).toNat)
    case atStart => exact ⟨0, rfl, by omega, hT, hB⟩
    case round =>
      clear hT hB
      obtain ⟨j, rfl, hj, hT, hB⟩ := hrel
      by_cases hjl : j + 1 < len
      · obtain ⟨a, ha⟩ : ∃ t, L[j]? = some t := ⟨_, List.getElem?_eq_getElem (by omega)⟩
        obtain ⟨b, hb⟩ : ∃ t, L[j + 1]? = some t := ⟨_, List.getElem?_eq_getElem (by omega)⟩
        obtain ⟨q, r, hab⟩ := PL_two HPL.out ha hb
        have hal := (HM.out a (List.mem_of_getElem? ha))
        have hbl := (HM.out b (List.mem_of_getElem? hb))
        obtain ⟨bk, off, ea, hbk, a0, a1, a2, a3⟩ := hT.at ha
        obtain ⟨_, _, eb, _, b0, b1, b2, b3⟩ := hT.at hb
        subst ea
        cases eb
        have ka0 := cell_regrown a0
        have ka1 := cell_regrown a1
        have ka2 := cell_regrown a2
        have ka3 := cell_regrown a3
        have kb0 := cell_regrown b0
        have kb1 := cell_regrown b1
        have kb2 := cell_regrown b2
        have kb3 := cell_regrown b3
        have hwl : widT a ≤ 402 := by rw [wid_len]; have := hal.2.len; unfold wlen wrt; split <;> simp <;> omega
        have hal1 := hal.1
        have cW := hid (fun d os => Calls.regrown_of (width_any a (Go.Sort.grow (redrawn wr d) os) (by have := hal.2.len; omega)))
        unfold tokW at cW
        have hal2 := hal.2.len
        have hbl2 := hbl.2.len
        have HAB := hid hab
        have hzz : ¬ 9223372036854775807 < (wrtT a).size + (wrtT b).size := by have := wrtT_size a hal2; have := wrtT_size b hbl2; omega
        clear hal hbl hab a0 a1 a2 a3 b0 b1 b2 b3 hbk
        have i1 : ((j : Int) + 1) - 1 = (j : Int) := by omega
        go_wp2_with fail
        refine wp_region_quiet_below (by kernel_rfl) (by kernel_rfl) ?_
        repeat (first | go_big_quiet_step (first | exact cW.out _ _) | quiet_step (first | exact cW.out _ _))
        refine wpQuiet_nil ?_
        intro _ hw'
        obtain ⟨⟨dq, osq⟩, hw''⟩ := hw'
        subst hw''
        have hBr := below_regrown wr dq osq
        replace hT := hT.below hBr
        replace hB := hB.trans (hBr.mono hB.size)
        clear hBr
        have kr0 := ka0 dq osq
        have kr1 := ka1 dq osq
        have kr2 := ka2 dq osq
        have kr3 := ka3 dq osq
        have lr0 := kb0 dq osq
        have lr1 := kb1 dq osq
        have lr2 := kb2 dq osq
        have lr3 := kb3 dq osq
        clear ka0 ka1 ka2 ka3 kb0 kb1 kb2 kb3 cW
        generalize Go.Sort.grow (redrawn wr { d := dq, os := osq : Regrown }.d) { d := dq, os := osq : Regrown }.os = wz at *
        by_cases hd : a.at_ + widT a = b.at_
        · have hdI : (a.at_ : Int) + (widT a : Int) = (b.at_ : Int) := by omega
          have HL2 := hid (fun w => two_lex HAB.out (by rw [← wid_len]; exact hd) w)
          have ka0 := cell_regrown kr0
          have ka1 := cell_regrown kr1
          have ka2 := cell_regrown kr2
          have ka3 := cell_regrown kr3
          have kb0 := cell_regrown lr0
          have kb1 := cell_regrown lr1
          have kb2 := cell_regrown lr2
          have kb3 := cell_regrown lr3
          have cA := hid (fun d os => Calls.regrown_of (written_any a (Go.Sort.grow (redrawn wz d) os) (by omega)))
          have cB := hid (fun d os => Calls.regrown_of (written_any b (Go.Sort.grow (redrawn wz d) os) (by omega)))
          unfold tokW at cA cB
          clear kr0 kr1 kr2 kr3 lr0 lr1 lr2 lr3
          go_wp2_with fail
          refine wp_region_below_call 12 (by kernel_rfl) (by kernel_rfl) ?_
          simp only [List.take_succ_cons, List.take_zero, List.drop_succ_cons, List.drop_zero]
          iterate 5 (first | go_big_quiet_step (fail) | quiet_step (fail))
          (first | go_big_quiet_step (exact cA.out _ _) | quiet_step (exact cA.out _ _))
          iterate 4 (first | go_big_quiet_step (fail) | quiet_step (fail))
          (first | go_big_quiet_step (exact cB.out _ _) | quiet_step (exact cB.out _ _))
          iterate 1 (first | go_big_quiet_step (fail) | quiet_step (fail))
          refine wpQuiet_nil ?_
          intro _ hw'
          obtain ⟨⟨dr, osr⟩, hw''⟩ := hw'
          subst hw''
          refine wpOp_call (by rfl) (by rfl) 64 (by rfl) 12 #[.string (wrtT a ++ wrtT b)] (by kernel_rfl) ?_
          refine (HL2.out _).mono ?_
          rintro e w5 ⟨ao5, cap5, rfl, hB5⟩
          refine ⟨_, rfl, ?_⟩
          have hBr := below_regrown wz dr osr
          have hBz := hBr.trans (hB5.mono hBr.size)
          replace hT := hT.below hBz
          replace hB := hB.trans (hBz.mono hB.size)
          clear hBr hBz hB5 ka0 ka1 ka2 ka3 kb0 kb1 kb2 kb3 cA cB
          simp only [Act.put, List.setIfInBounds_toArray, List.set_cons_succ, List.set_cons_zero]
          repeat (go_big_quiet_step (fail))
          refine wpQuiet_end ?_
          go_wp2_with fail
          go_roundw
          case rel => exact ⟨j + 1, by push_cast; rfl, by omega, hT, hB⟩
          case measure => simp [intOf]; omega
        · have hdI : ((a.at_ : Int) + (widT a : Int) == (b.at_ : Int)) = false := by rw [beq_eq_false_iff_ne]; omega
          clear kr0 kr1 kr2 kr3 lr0 lr1 lr2 lr3
          go_wp2_with fail
          go_roundw
          case rel => exact ⟨j + 1, by push_cast; rfl, by omega, hT, hB⟩
          case measure => simp [intOf]; omega
      · clear HPL HM
        go_wp2_with fail
        go_ret
        exact ⟨ret_bool (by first | rfl | simp), hB⟩
  · have hnil := lexR_none _ 0 he
    rw [hnil] at H1
    clear hnil
    generalize (lexR 0 s.data.toList).2.1 = e1 at *
    generalize (lexR 0 s.data.toList).2.2 = n1 at *
    replace H1 : Hid (∀ w : World, Calls Tryd.prog 12 #[.string s] w fun en w' => ∃ ao cap, en = .returned (.tuple #[.slice ao 0 cap, .int .i64 e1, .int .i64 n1]) ∧ Toks w' ao [] ∧ Below w.heap.size w w') := H1
    go_enter Tryd.func9, Tryd.ntmps9  ;go_wp2_with fail  ;refine (HH.out _).mono ?_  ;rintro e w1 ⟨rfl, hB⟩  ;go_wp2_with fail
    refine (H1.out _).mono ?_
    rintro e w2 ⟨ao, cap, rfl, -, hB1⟩
    replace hB := hB.trans (hB1.mono hB.size)  ;clear hB1  ;go_wp2_with fail
    go_loopw [7] (fun s7 wr => s7 = .int .i64 1 ∧ Below w.heap.size w wr) (fun _ _ => 0)
    case atStart => exact ⟨rfl, hB⟩
    case round =>
      clear hB
      obtain ⟨rfl, hB⟩ := hrel
      go_wp2_with fail
      go_ret
      exact ⟨ret_bool (by first | rfl | simp), hB⟩
end Go.Proofs.YtdnpglfmgbcjhaaDoor
