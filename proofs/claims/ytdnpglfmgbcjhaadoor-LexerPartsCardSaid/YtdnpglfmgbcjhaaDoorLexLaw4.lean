/- lexer: the statement LexerParts -/
import Derived.Test.YtdnpglfmgbcjhaaDoorLexLaw5
import Derived.Test.YtdnpglfmgbcjhaaDoorLexSame
import Derived.Test.YtdnpglfmgbcjhaaDoorLexR4
namespace Go.Proofs.YtdnpglfmgbcjhaaDoor
open Go.RowKit

theorem toksCells_app (a b : List Tok) : toksCells (a ++ b) = toksCells a ++ toksCells b := by simp [toksCells]
theorem Toks.pre {w : World} {ao : Option Addr} {a b : List Tok} (h : Toks w ao (a ++ b)) : Toks w ao a := by
  unfold Toks at *
  rw [toksCells_app] at h
  refine ⟨Nat.le_trans (by simp) h.len, fun i x hi => h.cell i x ?_⟩
  rw [List.getElem?_append_left (List.getElem?_eq_some_iff.1 hi).1]; exact hi
theorem Toks.suf {w : World} {b off : Nat} {u v : List Tok} (h : Toks w (some ⟨b, off, none⟩) (u ++ v)) : Toks w (some ⟨b, off + u.length * 4, none⟩) v := by
  unfold Toks at *
  rw [toksCells_app] at h
  refine ⟨Nat.le_trans (by simp) h.len, fun i x hi => ?_⟩
  obtain ⟨b', off', e, hb, hc⟩ := h.cell (4 * u.length + i) x (by rw [List.getElem?_append_right (by rw [toksCells_len]; omega), toksCells_len]; rw [← hi]; congr 1; omega)
  cases e
  refine ⟨b, off + u.length * 4, rfl, hb, ?_⟩
  rw [← hc]
  have : off + u.length * 4 + i = off + (4 * u.length + i) := by omega
  rw [this]
theorem map_sh0 (L : List Tok) : L.map (shT 0) = L := by
  have : shT 0 = id := by funext t; rfl
  rw [this, List.map_id]
theorem Toks.none {w : World} {ts : List Tok} (h : Toks w none ts) : ts = [] := by
  cases ts with
  | nil => rfl
  | cons t ts => obtain ⟨_, _, e, _⟩ := h.get (i := 0) (t := t) rfl; cases e
theorem Toks.nil {w : World} (ao : Option Addr) : Toks w ao [] := ⟨by simp [toksCells], by simp [toksCells]⟩
theorem Toks.sub1 {w : World} {ao : Option Addr} {u v : List Tok} (h : Toks w ao (u ++ v)) : Toks w (Option.map (fun x => x.add 0) ao) u := by
  cases ao with
  | none => exact h.pre
  | some a => exact h.pre
theorem Toks.sub2 {w : World} {ao : Option Addr} {u v : List Tok} (h : Toks w ao (u ++ v)) : Toks w (Option.map (fun x => x.add (u.length * 4)) ao) v := by
  cases ao with
  | none => have := h.none; simp at this; rw [this.2]; exact Toks.nil _
  | some a =>
    cases v with
    | nil => exact Toks.nil _
    | cons t v =>
      obtain ⟨b, off, e, _⟩ := h.get (i := u.length) (t := t) (by rw [List.getElem?_append_right (Nat.le_refl _)]; simp)
      cases e
      have := h.suf
      show Toks w (some ((⟨b, off, .none⟩ : Addr).add (u.length * 4))) (t :: v)
      rw [addr_add]
      exact this
/-- Lex, with the capacity -/
theorem lex_any3 (s : ByteArray) (w : World) (hs : s.size ≤ 1000000) : Calls Tryd.prog 12 #[.string s] w fun e w' =>
    ∃ ao cap, e = .returned (.tuple #[.slice ao (lexL s.data.toList).1.length cap, .int .i64 (lexL s.data.toList).2.1, .int .i64 (lexL s.data.toList).2.2]) ∧ Toks w' ao (lexL s.data.toList).1 ∧ Below w.heap.size w w' ∧ (lexL s.data.toList).1.length ≤ cap := by
  refine (lex_any s w hs).mono ?_
  rintro e w' ⟨v, rfl, hm⟩
  have hl := lexL_len s.data.toList
  obtain ⟨ao, cap, rfl, hsl, _, hc, _⟩ := hm.slv (by rw [toksCells_len]; unfold maxLen; omega)
  exact ⟨ao, cap, rfl, hsl, hm.below, hc⟩
theorem lex_short3 {s : ByteArray} {L : List Tok} {e n : Int} (hs : s.size ≤ 5000) (h : lexR 0 s.data.toList = (L, e, n)) (w : World) : Calls Tryd.prog 12 #[.string s] w fun en w' =>
    ∃ ao cap, en = .returned (.tuple #[.slice ao L.length cap, .int .i64 e, .int .i64 n]) ∧ Toks w' ao L ∧ Below w.heap.size w w' ∧ L.length ≤ cap := by
  have := lex_any3 s w (by omega)
  rw [lexL_lexR (by rw [len_list]; omega), h] at this
  exact this
theorem cat_list (a b : ByteArray) : (a ++ (⟨#[10]⟩ : ByteArray) ++ b).data.toList = a.data.toList ++ 10 :: b.data.toList := by simp



set_option maxHeartbeats 4000000 in
set_option maxRecDepth 100000 in
theorem parts_long1 (s t : ByteArray) (w : World) (hs : 1500 < s.size) : Calls Tryd.prog 6 #[.string s, .string t] w fun e w' => e = .returned (.bool true) ∧ Below w.heap.size w w' := by
  have HH := hid (fun w => head_any w)
  go_enter Tryd.func6, Tryd.ntmps6  ;go_wp2_with fail  ;refine (HH.out _).mono ?_  ;rintro e w1 ⟨rfl, hB⟩  ;go_wp2_with fail
  go_ret
  exact ⟨ret_bool (by first | rfl | simp), hB⟩
set_option maxHeartbeats 4000000 in
set_option maxRecDepth 100000 in
theorem parts_long2 (s t : ByteArray) (w : World) (hs : s.size ≤ 1500) (ht : 1500 < t.size) : Calls Tryd.prog 6 #[.string s, .string t] w fun e w' => e = .returned (.bool true) ∧ Below w.heap.size w w' := by
  have HH := hid (fun w => head_any w)
  go_enter Tryd.func6, Tryd.ntmps6  ;go_wp2_with fail  ;refine (HH.out _).mono ?_  ;rintro e w1 ⟨rfl, hB⟩  ;go_wp2_with fail
  go_ret
  exact ⟨ret_bool (by first | rfl | simp), hB⟩
theorem cat_size (a b : ByteArray) : (a ++ (⟨#[10]⟩ : ByteArray) ++ b).size = a.size + 1 + b.size := by
  rw [ByteArray.size_append, ByteArray.size_append]; rfl
set_option maxHeartbeats 4000000 in
set_option maxRecDepth 100000 in
theorem parts_err1 (s t : ByteArray) (w : World) (hs : s.size ≤ 1500) (ht : t.size ≤ 1500) (he : (lexR 0 s.data.toList).2.1 ≠ 0) : Calls Tryd.prog 6 #[.string s, .string t] w fun e w' => e = .returned (.bool true) ∧ Below w.heap.size w w' := by
  have HH := hid (fun w => head_any w)
  have H1 := hid (fun w => lex_short (s := s) (by omega) trip w)
  have H2 := hid (fun w => lex_short (s := t) (by omega) trip w)
  have hp := lexR_parts t.data.toList s.data.toList 0
  rw [if_neg he] at hp
  have H3 := hid (fun w => lex_short (s := s ++ (⟨#[10]⟩ : ByteArray) ++ t) (by rw [cat_size]; omega) ((congrArg (lexR 0) (cat_list s t)).trans (hp.trans trip)) w)
  clear hp
  generalize (lexR 0 s.data.toList).1 = L1 at *
  generalize (lexR 0 s.data.toList).2.1 = e1 at *
  generalize (lexR 0 s.data.toList).2.2 = n1 at *
  generalize (lexR 0 t.data.toList).1 = L2 at *
  generalize (lexR 0 t.data.toList).2.1 = e2 at *
  generalize (lexR 0 t.data.toList).2.2 = n2 at *
  have z1 : ¬ 9223372036854775807 < s.size + 1 := by omega
  have z2 : ¬ 9223372036854775807 < s.size + 1 + t.size := by omega
  go_enter Tryd.func6, Tryd.ntmps6  ;go_wp2_with fail  ;refine (HH.out _).mono ?_  ;rintro e w1 ⟨rfl, hB⟩  ;go_wp2_with fail  ;refine (H1.out _).mono ?_  ;rintro e w2 ⟨ao1, cap1, rfl, hT1, hB1⟩  ;replace hB := hB.trans (hB1.mono hB.size)  ;clear hB1  ;go_wp2_with fail  ;refine (H2.out _).mono ?_  ;rintro e w3 ⟨ao2, cap2, rfl, hT2, hB1⟩  ;replace hT1 := hT1.below hB1  ;replace hB := hB.trans (hB1.mono hB.size)  ;clear hB1  ;go_wp2_with fail  ;refine (H3.out _).mono ?_  ;rintro e w4 ⟨ao3, cap3, rfl, hT3, hB1⟩  ;replace hT1 := hT1.below hB1  ;replace hT2 := hT2.below hB1  ;replace hB := hB.trans (hB1.mono hB.size)  ;clear hB1  ;go_wp2_with fail
  go_ret
  exact ⟨ret_bool (by first | rfl | simp), hB⟩
set_option maxHeartbeats 4000000 in
set_option maxRecDepth 100000 in
theorem parts_err2 (s t : ByteArray) (w : World) (hs : s.size ≤ 1500) (ht : t.size ≤ 1500) (he : (lexR 0 s.data.toList).2.1 = 0) (hf : (lexR 0 t.data.toList).2.1 ≠ 0) : Calls Tryd.prog 6 #[.string s, .string t] w fun e w' => e = .returned (.bool true) ∧ Below w.heap.size w w' := by
  have HH := hid (fun w => head_any w)
  have H1 := hid (fun w => lex_short (s := s) (by omega) trip w)
  have H2 := hid (fun w => lex_short (s := t) (by omega) trip w)
  have hp := lexR_parts t.data.toList s.data.toList 0
  have hn : ∃ n : Nat, (lexR 0 t.data.toList).2.2 = n ∧ n ≤ t.size := by
    obtain ⟨m, h1, h2, -⟩ := lexR_begin _ 0 hf
    exact ⟨m, by rw [h1]; simp, by rw [len_list] at h2; omega⟩
  obtain ⟨n, hn, hnt⟩ := hn
  rw [if_pos he, Nat.zero_add, lexR_shift0 (s.data.toList.length + 1), len_list, if_neg hf, hn] at hp
  have H3 := hid (fun w => lex_short (s := s ++ (⟨#[10]⟩ : ByteArray) ++ t) (by rw [cat_size]; omega) ((congrArg (lexR 0) (cat_list s t)).trans (hp.trans trip)) w)
  have j1 : ∀ (ts : List Tok) (r : List Tok × Int × Int), (joinR ts r).2.1 = r.2.1 := fun ts r => joinR_ok.1
  have j2 : ∀ (ts : List Tok) (r : List Tok × Int × Int), (joinR ts r).2.2 = r.2.2 := fun ts r => joinR_ok.2.1
  rw [j1, j2] at H3
  rw [he] at H1
  rw [hn] at H2
  dsimp only at H3
  clear hp hn j1 j2 he
  generalize (joinR (lexR 0 s.data.toList).1 _).1 = L3 at *
  generalize (lexR 0 s.data.toList).1 = L1 at *
  generalize (lexR 0 s.data.toList).2.2 = n1 at *
  generalize (lexR 0 t.data.toList).1 = L2 at *
  generalize (lexR 0 t.data.toList).2.1 = e2 at *
  have z1 : ¬ 9223372036854775807 < s.size + 1 := by omega
  have z2 : ¬ 9223372036854775807 < s.size + 1 + t.size := by omega
  have HN := hid (show ((n : Int) + ((s.size + 1 : Nat) : Int)) = (n : Int) + (s.size : Int) + 1 by push_cast; omega)
  rw [HN.out] at H3
  clear HN
  go_enter Tryd.func6, Tryd.ntmps6  ;go_wp2_with fail  ;refine (HH.out _).mono ?_  ;rintro e w1 ⟨rfl, hB⟩  ;go_wp2_with fail  ;refine (H1.out _).mono ?_  ;rintro e w2 ⟨ao1, cap1, rfl, hT1, hB1⟩  ;replace hB := hB.trans (hB1.mono hB.size)  ;clear hB1  ;go_wp2_with fail  ;refine (H2.out _).mono ?_  ;rintro e w3 ⟨ao2, cap2, rfl, hT2, hB1⟩  ;replace hT1 := hT1.below hB1  ;replace hB := hB.trans (hB1.mono hB.size)  ;clear hB1  ;go_wp2_with fail  ;refine (H3.out _).mono ?_  ;rintro e w4 ⟨ao3, cap3, rfl, hT3, hB1⟩  ;replace hT1 := hT1.below hB1  ;replace hT2 := hT2.below hB1  ;replace hB := hB.trans (hB1.mono hB.size)  ;clear hB1  ;go_wp2_with fail
  go_ret
  exact ⟨ret_bool (by first | rfl | simp), hB⟩
set_option maxHeartbeats 4000000 in
set_option maxRecDepth 100000 in
theorem parts_good (s t : ByteArray) (w : World) (hs : s.size ≤ 1500) (ht : t.size ≤ 1500) (he : (lexR 0 s.data.toList).2.1 = 0) (hf : (lexR 0 t.data.toList).2.1 = 0) : Calls Tryd.prog 6 #[.string s, .string t] w fun e w' => e = .returned (.bool true) ∧ Below w.heap.size w w' := by
  have HH := hid (fun w => head_any w)
  have H1 := hid (fun w => lex_short (s := s) (by omega) trip w)
  have H2 := hid (fun w => lex_short (s := t) (by omega) trip w)
  have hp := lexR_parts t.data.toList s.data.toList 0
  rw [if_pos he, Nat.zero_add, lexR_shift0 (s.data.toList.length + 1), len_list, if_pos hf, hf] at hp
  have H3 := hid (fun w => lex_short3 (s := s ++ (⟨#[10]⟩ : ByteArray) ++ t) (by rw [cat_size]; omega) ((congrArg (lexR 0) (cat_list s t)).trans hp) w)
  have m1 := lexR_mem s.data.toList 0
  have m2 := lexR_mem t.data.toList 0
  rw [he, lexR_zero _ 0 he] at H1
  rw [hf, lexR_zero _ 0 hf] at H2
  clear hp he hf
  rw [len_list] at m1 m2
  generalize (lexR 0 s.data.toList).1 = L1 at *
  generalize (lexR 0 t.data.toList).1 = L2 at *
  have z1 : ¬ 9223372036854775807 < s.size + 1 := by omega
  have z2 : ¬ 9223372036854775807 < s.size + 1 + t.size := by omega
  have q1 : ∀ t ∈ L1, t.at_ + 0 ≤ 1000000 := fun u hu => by have := (m1.1 u hu).1; omega
  have q2 : ∀ t ∈ L2, t.at_ + (s.size + 1) ≤ 1000000 := fun u hu => by have := (m2.1 u hu).1; omega
  have l1 : L1.length ≤ 1500 := by omega
  have l2 : L2.length ≤ 1500 := by omega
  have hl3 : (L1 ++ L2.map (shT (s.size + 1))).length = L1.length + L2.length := by simp
  rw [hl3] at H3
  clear m1 m2 hl3
  have HS := hid (fun ao bo ca cb w hA hB => same_yes ao bo ca cb L1 0 w hA (by rw [map_sh0]; exact hB) (by omega) q1)
  have HT := hid (fun ao bo ca cb w hA hB => same_yes ao bo ca cb L2 (s.size + 1) w hA hB (by omega) q2)
  clear q1 q2
  push_cast at HT
  replace HS : Hid (∀ (ao bo : Option Addr) (ca cb : Nat) (w : World), Toks w ao L1 → Toks w bo L1 → Calls Tryd.prog 14 #[.slice ao L1.length ca, .int .i64 0, .slice bo L1.length cb] w fun e w' => e = .returned (.bool true) ∧ Below w.heap.size w w') := HS
  generalize hN1 : L1.length = N1 at *
  generalize hN2 : L2.length = N2 at *
  go_enter Tryd.func6, Tryd.ntmps6  ;go_wp2_with fail  ;refine (HH.out _).mono ?_  ;rintro e w1 ⟨rfl, hB⟩  ;go_wp2_with fail  ;refine (H1.out _).mono ?_  ;rintro e w2 ⟨ao1, cap1, rfl, hT1, hB1⟩  ;replace hB := hB.trans (hB1.mono hB.size)  ;clear hB1  ;go_wp2_with fail  ;refine (H2.out _).mono ?_  ;rintro e w3 ⟨ao2, cap2, rfl, hT2, hB1⟩  ;replace hT1 := hT1.below hB1  ;replace hB := hB.trans (hB1.mono hB.size)  ;clear hB1  ;go_wp2_with fail  ;refine (H3.out _).mono ?_  ;rintro e w4 ⟨ao3, cap3, rfl, hT3, hB1, hcap⟩  ;replace hT1 := hT1.below hB1  ;replace hT2 := hT2.below hB1  ;have hcap1 : N1 ≤ cap3 := (by omega)  ;replace hB := hB.trans (hB1.mono hB.size)  ;clear hB1  ;go_wp2_with fail
  refine (HS.out _ _ _ _ _ hT1 hT3.pre).mono ?_
  rintro e w5 ⟨rfl, hB1⟩
  replace hT2 := hT2.below hB1
  replace hT3 := hT3.below hB1
  replace hB := hB.trans (hB1.mono hB.size)
  clear hB1
  have hsub := hT3.sub2
  rw [hN1] at hsub
  by_cases hcc : cap3 = N1
  · have hL2 : L2.map (shT (s.size + 1)) = [] := by
      have : L2 = [] := List.eq_nil_of_length_eq_zero (by omega)
      rw [this]; rfl
    have HLN := hid hL2
    clear hL2 hsub
    go_wp2_with fail
    refine (HT.out _ _ _ _ _ hT2 (by rw [HLN.out]; exact Toks.nil _)).mono ?_
    rintro e w6 ⟨rfl, hB1⟩
    replace hB := hB.trans (hB1.mono hB.size)  ;clear hB1  ;go_wp2_with fail
    go_ret
    exact ⟨ret_bool (by first | rfl | simp), hB⟩
  · go_wp2_with fail
    refine (HT.out _ _ _ _ _ hT2 hsub).mono ?_
    rintro e w6 ⟨rfl, hB1⟩
    replace hB := hB.trans (hB1.mono hB.size)  ;clear hB1  ;go_wp2_with fail
    go_ret
    exact ⟨ret_bool (by first | rfl | simp), hB⟩
theorem parts_fin (s t : ByteArray) (w : World) (_h0 : s.size ≤ maxLen) (_h1 : t.size ≤ maxLen) : Calls Tryd.prog 6 #[.string s, .string t] w fun e w' => e = .returned (.bool true) ∧ Below w.heap.size w w' := by
  by_cases hs : 1500 < s.size
  · exact parts_long1 s t w hs
  by_cases ht : 1500 < t.size
  · exact parts_long2 s t w (by omega) ht
  by_cases he : (lexR 0 s.data.toList).2.1 = 0
  · by_cases hf : (lexR 0 t.data.toList).2.1 = 0
    · exact parts_good s t w (by omega) (by omega) he hf
    · exact parts_err2 s t w (by omega) (by omega) he hf
  · exact parts_err1 s t w (by omega) (by omega) he
end Go.Proofs.YtdnpglfmgbcjhaaDoor
