/- lexer: the statement LexerAgain -/
import Derived.Test.YtdnpglfmgbcjhaaDoorLexLaw5
import Derived.Test.YtdnpglfmgbcjhaaDoorLexSame
import Derived.Test.YtdnpglfmgbcjhaaDoorLexR4
namespace Go.Proofs.YtdnpglfmgbcjhaaDoor
open Go.RowKit

theorem allL_app (a b : List Tok) : allL (a ++ b) = allL a ++ allL b := by simp [allL]
theorem joinR_allL (t : Tok) (r : List Tok × Int × Int) : (allL (joinR [t] r).1).length ≤ (wrt t.k t.t).length + 1 + (allL r.1).length := by
  unfold joinR
  split
  · rw [allL_app]; simp [allL]; omega
  · simp [allL]
theorem allL_len : ∀ (l : List UInt8) (p : Nat), (allL (lexR p l).1).length ≤ 2 * l.length := by
  intro l
  induction l using lexR_ind with
  | h l ih =>
    intro p
    rcases lexR_cases p l with ⟨_, h⟩ | ⟨e, _, _, h, he⟩ | ⟨k, t, n, w, hg, ht, hw, hl, h⟩
    · rw [h]; simp [allL]
    · rw [h]; simp [allL]
    · have i := ih (l.drop (gapL false l + w)) (by simp; omega) (p + gapL false l + w)
      rw [List.length_drop] at i
      rw [h]
      have := joinR_allL ⟨k, t, n, p + gapL false l⟩ (lexR (p + gapL false l + w) (l.drop (gapL false l + w)))
      have hwr := (tok1_stop (drop_ne (by omega)) ht).2.2.1
      dsimp only at this
      omega
theorem allL_take_len (L : List Tok) (k : Nat) : (allL (L.take k)).length ≤ (allL L).length := by
  conv => rhs; rw [← List.take_append_drop k L, allL_app]
  simp
theorem allL_step {L : List Tok} {k : Nat} {t : Tok} (h : L[k]? = some t) : (⟨(allL (L.take (k + 1))).toArray⟩ : ByteArray) = ⟨(allL (L.take k)).toArray⟩ ++ (wrtT t ++ (⟨#[32]⟩ : ByteArray)) := by
  apply str_extB
  rw [List.take_add_one, h, allL_app]
  simp [allL, wrtT]

set_option maxHeartbeats 2000000 in
set_option maxRecDepth 100000 in
theorem all_any (ao : Option Addr) (ca : Nat) (L : List Tok) (w : World) (hA : Toks w ao L) (hl : (allL L).length ≤ 10000) (hn0 : L.length ≤ 10000) (hg : ∀ t ∈ L, t.t.length ≤ 400) :
    Calls Tryd.prog 18 #[.slice ao L.length ca] w fun e w' => e = .returned (.string ⟨(allL L).toArray⟩) ∧ Below w.heap.size w w' := by
  obtain ⟨X, HX⟩ : ∃ X : ByteArray, Hid (⟨(allL L).toArray⟩ = X) := ⟨_, hid rfl⟩
  rw [HX.out]
  generalize hn : L.length = len at *
  go_enter Tryd.func18, Tryd.ntmps18
  go_wp2_with fail
  have hall : ∀ k, (⟨(allL (L.take k)).toArray⟩ : ByteArray).size ≤ 10000 := by
    intro k
    show (allL (L.take k)).toArray.size ≤ _
    rw [List.size_toArray]
    have := allL_take_len L k
    omega
  go_loopw [3, 4] (fun s3 s4 wr => ∃ k : Nat, s4 = .int .i64 k ∧ s3 = .string ⟨(allL (L.take k)).toArray⟩ ∧ k ≤ len ∧ Below w.heap.size w wr) (fun _ s4 _ => len - (intOf s4).toNat)
  case atStart => exact ⟨0, rfl, rfl, by omega, Below.refl _ _⟩
  case round =>
    obtain ⟨k, rfl, rfl, hk, hBw⟩ := hrel
    by_cases hkl : k < len
    · obtain ⟨t, ht⟩ : ∃ t, L[k]? = some t := ⟨_, List.getElem?_eq_getElem (by omega)⟩
      have htl := hg t (List.mem_of_getElem? ht)
      obtain ⟨b, off, ea, hb, a0, a1, a2, a3⟩ := (hA.below hBw).at ht
      subst ea
      have hs1 := hall k
      have hs2 := hall (k + 1)
      have HE := hid (allL_step ht)
      rw [HE.out, ByteArray.size_append, ByteArray.size_append] at hs2
      have HW := hid (fun w => written_any t w (by omega))
      generalize (⟨(allL (L.take k)).toArray⟩ : ByteArray) = S at *
      generalize wrtT t = V at *
      unfold tokW at HW
      have e32 : (⟨#[32]⟩ : ByteArray).size = 1 := rfl
      have z1 : ¬ 9223372036854775807 < V.size + 1 := by omega
      have z2 : ¬ 9223372036854775807 < S.size + (V.size + 1) := by omega
      clear hall hb
      go_wp2_with fail
      refine (HW.out _).mono ?_
      rintro e w1 ⟨rfl, hB1⟩
      replace hBw := hBw.trans (hB1.mono hBw.size)
      clear hB1 a0 a1 a2 a3
      go_wp2_with fail
      go_roundw
      case rel => exact ⟨k + 1, by go_num, by rw [HE.out], by omega, hBw⟩
      case measure => simp [intOf]; omega
    · obtain rfl : k = len := by omega
      have e : (⟨(allL (L.take k)).toArray⟩ : ByteArray) = X := by rw [← HX.out, List.take_of_length_le (by omega)]
      rw [e]
      clear e
      go_wp2_with fail
      go_ret
      exact ⟨rfl, hBw⟩

set_option maxHeartbeats 4000000 in
set_option maxRecDepth 100000 in
theorem again_fin (s : ByteArray) (w : World) (_h0 : s.size ≤ maxLen) : Calls Tryd.prog 5 #[.string s] w fun e w' => e = .returned (.bool true) ∧ Below w.heap.size w w' := by
  have HH := hid (fun w => head_any w)
  by_cases hs : 2000 < s.size
  · go_enter Tryd.func5, Tryd.ntmps5  ;go_wp2_with fail  ;refine (HH.out _).mono ?_  ;rintro e w1 ⟨rfl, hB⟩  ;go_wp2_with fail
    go_ret
    exact ⟨ret_bool (by first | rfl | simp), hB⟩
  have H1 := hid (fun w => lex_short (s := s) (by omega) trip w)
  by_cases he : (lexR 0 s.data.toList).2.1 = 0
  · obtain ⟨m1, m2⟩ := lexR_mem s.data.toList 0
    have hal := allL_len s.data.toList 0
    rw [len_list] at hal m2
    rw [he] at H1
    have hlall := lexR_all (lexR 0 s.data.toList).1 0 (fun t ht => (m1 t ht).2)
    have hlen := fun t ht => (m1 t ht).2.len
    clear m1 he
    generalize (lexR 0 s.data.toList).1 = L at *
    generalize (lexR 0 s.data.toList).2.2 = n1 at *
    obtain ⟨i1, i2⟩ := hlall
    have HA := hid (fun ao ca w hA => all_any ao ca L w hA (by omega) (by omega) hlen)
    have H2 := hid (fun w => lex_short (s := ⟨(allL L).toArray⟩) (by show (allL L).toArray.size ≤ _; rw [List.size_toArray]; omega) (show lexR 0 (allL L) = _ from trip) w)
    rw [i1] at H2
    have HK := hid (fun ao bo ca cb w hA hB => alike_yes ao bo ca cb L (lexR 0 (allL L)).1 w hA hB (by omega) i2.symm)
    clear i1 i2 hlen
    generalize (lexR 0 (allL L)).1 = M at *
    generalize (lexR 0 (allL L)).2.2 = n2 at *
    generalize (⟨(allL L).toArray⟩ : ByteArray) = S at *
    generalize hN1 : L.length = N1 at *
    generalize hN2 : M.length = N2 at *
    go_enter Tryd.func5, Tryd.ntmps5  ;go_wp2_with fail  ;refine (HH.out _).mono ?_  ;rintro e w1 ⟨rfl, hB⟩  ;go_wp2_with fail
    refine (H1.out _).mono ?_
    rintro e w2 ⟨ao1, cap1, rfl, hT1, hB1⟩
    replace hB := hB.trans (hB1.mono hB.size)  ;clear hB1  ;go_wp2_with fail
    refine (HA.out _ _ _ hT1).mono ?_
    rintro e w3 ⟨rfl, hB1⟩
    replace hT1 := hT1.below hB1
    replace hB := hB.trans (hB1.mono hB.size)  ;clear hB1  ;go_wp2_with fail
    refine (H2.out _).mono ?_
    rintro e w4 ⟨ao2, cap2, rfl, hT2, hB1⟩
    replace hT1 := hT1.below hB1
    replace hB := hB.trans (hB1.mono hB.size)  ;clear hB1  ;go_wp2_with fail
    refine (HK.out _ _ _ _ _ hT1 hT2).mono ?_
    rintro e w5 ⟨rfl, hB1⟩
    replace hB := hB.trans (hB1.mono hB.size)  ;clear hB1  ;go_wp2_with fail
    go_ret
    exact ⟨ret_bool (by first | rfl | simp), hB⟩
  · generalize (lexR 0 s.data.toList).1 = L at *
    generalize (lexR 0 s.data.toList).2.1 = e1 at *
    generalize (lexR 0 s.data.toList).2.2 = n1 at *
    go_enter Tryd.func5, Tryd.ntmps5  ;go_wp2_with fail  ;refine (HH.out _).mono ?_  ;rintro e w1 ⟨rfl, hB⟩  ;go_wp2_with fail
    refine (H1.out _).mono ?_
    rintro e w2 ⟨ao1, cap1, rfl, -, hB1⟩
    replace hB := hB.trans (hB1.mono hB.size)  ;clear hB1  ;go_wp2_with fail
    go_ret
    exact ⟨ret_bool (by first | rfl | simp), hB⟩
end Go.Proofs.YtdnpglfmgbcjhaaDoor
