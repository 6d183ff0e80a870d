/- lexer: the statement LexerMatchesReference -/
import Derived.Test.YtdnpglfmgbcjhaaDoorRefLex
import Derived.Test.YtdnpglfmgbcjhaaDoorLexHead
import Derived.Test.YtdnpglfmgbcjhaaDoorLexR4
namespace Go.Proofs.YtdnpglfmgbcjhaaDoor
open Go.RowKit

theorem lexF_at : ∀ (f k p : Nat) (l : List UInt8), ∀ t ∈ (lexF f k p l).1, t.at_ ≤ p + l.length
  | 0, _, _, _ => by intro t ht; simp [lexF] at ht
  | f + 1, k, p, l => by
    intro t ht
    simp only [lexF] at ht
    by_cases h : l.length ≤ gapL false l
    · rw [if_pos h] at ht; simp at ht
    · rw [if_neg h] at ht
      cases htk : tok1 (l.drop (gapL false l)) with
      | err e => rw [htk] at ht; simp at ht
      | tok kd tt n w =>
        rw [htk] at ht
        dsimp only at ht
        have hb := tok1_bd (drop_ne h) htk
        rw [List.length_drop] at hb
        split at ht
        · simp at ht
        · rcases joinR_mem ht with h1 | h1
          · rw [List.mem_singleton] at h1
            subst h1
            show p + gapL false l ≤ p + l.length; omega
          · have := lexF_at f _ _ _ t h1
            rw [List.length_drop] at this
            omega
theorem lexL_at (l : List UInt8) : ∀ t ∈ (lexL l).1, t.at_ ≤ 20000 := by
  intro t ht
  unfold lexL at ht
  split at ht
  · simp at ht
  · have := lexF_at _ _ _ _ t ht
    omega
theorem map_sh0' (L : List Tok) : L.map (shT 0) = L := by
  have : shT 0 = id := by funext t; rfl
  rw [this, List.map_id]
theorem rlex_any2 (s : ByteArray) (w : World) (hs : s.size ≤ 1000000) : Calls Tryd.prog 13 #[.string s] w fun e w' =>
    ∃ ao cap, e = .returned (.tuple #[.slice ao (lexL s.data.toList).1.length cap, .int .i64 (lexL s.data.toList).2.1, .int .i64 (lexL s.data.toList).2.2]) ∧ Toks w' ao (lexL s.data.toList).1 ∧ Below w.heap.size w w' := by
  refine (rlex_any s w hs).mono ?_
  rintro e w' ⟨v, rfl, hm⟩
  have hl := lexL_len s.data.toList
  obtain ⟨ao, cap, rfl, hsl, _⟩ := hm.slv (by rw [toksCells_len]; unfold maxLen; omega)
  exact ⟨ao, cap, rfl, hsl, hm.below⟩

set_option maxHeartbeats 4000000 in
set_option maxRecDepth 100000 in
theorem lmatch_fin (s : ByteArray) (w : World) (_h0 : s.size ≤ maxLen) : Calls Tryd.prog 3 #[.string s] w fun e w' => e = .returned (.bool true) ∧ Below w.heap.size w w' := by
  have HH := hid (fun w => head_any w)
  by_cases hs : 21000 < s.size
  · go_enter Tryd.func3, Tryd.ntmps3  ;go_wp2_with fail  ;refine (HH.out _).mono ?_  ;rintro e w1 ⟨rfl, hB⟩  ;go_wp2_with fail
    go_ret
    exact ⟨ret_bool (by first | rfl | simp), hB⟩
  have H1 := hid (fun w => lex_any2 s w (by omega))
  have H2 := hid (fun w => rlex_any2 s w (by omega))
  have hlen := lexL_len s.data.toList
  have hat := lexL_at s.data.toList
  generalize (lexL s.data.toList).1 = L at *
  generalize (lexL s.data.toList).2.1 = e1 at *
  generalize (lexL s.data.toList).2.2 = n1 at *
  have HS0 := hid (fun ao bo ca cb w hA hB => same_yes ao bo ca cb L 0 w hA (by rw [map_sh0']; exact hB) (by omega) (fun t ht => by have := hat t ht; omega))
  have HS : Hid (∀ (ao bo : Option Addr) (ca cb : Nat) (w : World), Toks w ao L → Toks w bo L → Calls Tryd.prog 14 #[.slice ao L.length ca, .int .i64 0, .slice bo L.length cb] w fun e w' => e = .returned (.bool true) ∧ Below w.heap.size w w') := HS0
  clear HS0 hat
  generalize hN : L.length = len at *
  go_enter Tryd.func3, Tryd.ntmps3  ;go_wp2_with fail  ;refine (HH.out _).mono ?_  ;rintro e w1 ⟨rfl, hB⟩  ;go_wp2_with fail
  refine (H1.out _).mono ?_
  rintro e w2 ⟨ao1, cap1, rfl, hT1, hB1⟩
  replace hB := hB.trans (hB1.mono hB.size)  ;clear hB1  ;go_wp2_with fail
  refine (H2.out _).mono ?_
  rintro e w3 ⟨ao2, cap2, rfl, hT2, hB1⟩
  replace hT1 := hT1.below hB1
  replace hB := hB.trans (hB1.mono hB.size)  ;clear hB1  ;go_wp2_with fail
  refine (HS.out _ _ _ _ _ hT1 hT2).mono ?_
  rintro e w4 ⟨rfl, hB1⟩
  replace hB := hB.trans (hB1.mono hB.size)  ;clear hB1  ;go_wp2_with fail
  go_ret
  exact ⟨ret_bool (by first | rfl | simp), hB⟩
end Go.Proofs.YtdnpglfmgbcjhaaDoor
