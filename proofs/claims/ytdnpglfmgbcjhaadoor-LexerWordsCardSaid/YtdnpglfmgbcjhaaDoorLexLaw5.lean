/- lexer: the statement LexerBeginnings -/
import Derived.Test.YtdnpglfmgbcjhaaDoorLexHead
import Derived.Test.YtdnpglfmgbcjhaaDoorLexR3
namespace Go.Proofs.YtdnpglfmgbcjhaaDoor
open Go.RowKit

theorem str_extB {s t : ByteArray} (h : s.data.toList = t.data.toList) : s = t := by
  cases s; cases t; congr 1; exact Array.toList_inj.1 h
theorem take_list (s : ByteArray) (i : Nat) : (s.extract 0 i).data.toList = s.data.toList.take i := by
  simp [ByteArray.data_extract]
theorem drop_list (s : ByteArray) (i : Nat) : (s.extract i s.size).data.toList = s.data.toList.drop i := by
  simp only [ByteArray.data_extract, Array.toList_extract, List.extract_eq_take_drop]
  rw [List.take_of_length_le]
  have : s.data.toList.length = s.size := Array.length_toList
  rw [List.length_drop]; omega
theorem len_list (s : ByteArray) : s.data.toList.length = s.size := Array.length_toList
/-- a text that is short enough for no limit -/
theorem lex_short {s : ByteArray} {L : List Tok} {e n : Int} (hs : s.size ≤ 5000) (h : lexR 0 s.data.toList = (L, e, n)) (w : World) : Calls Tryd.prog 12 #[.string s] w fun en w' =>
    ∃ ao cap, en = .returned (.tuple #[.slice ao L.length cap, .int .i64 e, .int .i64 n]) ∧ Toks w' ao L ∧ Below w.heap.size w w' :=
  lex_eq (by omega) (by rw [lexL_lexR (by rw [len_list]; omega)]; exact h) w
theorem trip {α : Type} {r : List α × Int × Int} : r = (r.1, r.2.1, r.2.2) := rfl

set_option maxHeartbeats 4000000 in
set_option maxRecDepth 100000 in
theorem begin_fin (s : ByteArray) (w : World) (_h0 : s.size ≤ maxLen) : Calls Tryd.prog 7 #[.string s] w fun e w' => e = .returned (.bool true) ∧ Below w.heap.size w w' := by
  have HH := hid (fun w => head_any w)
  by_cases hs : 3000 < s.size
  · go_enter Tryd.func7, Tryd.ntmps7
    go_wp2_with fail
    refine (HH.out _).mono ?_
    rintro e w1 ⟨rfl, hB⟩
    go_wp2_with fail
    go_ret
    exact ⟨ret_bool (by first | rfl | simp), hB⟩
  · have H1 := hid (fun w => lex_short (s := s) (by omega) trip w)
    by_cases he : (lexR 0 s.data.toList).2.1 = 0
    · have hz := lexR_zero _ 0 he
      rw [he, hz] at H1
      clear he hz
      generalize (lexR 0 s.data.toList).1 = L at *
      go_enter Tryd.func7, Tryd.ntmps7
      go_wp2_with fail
      refine (HH.out _).mono ?_
      rintro e w1 ⟨rfl, hB⟩
      go_wp2_with fail
      refine (H1.out _).mono ?_
      rintro e w2 ⟨ao, cap, rfl, -, hB1⟩
      replace hB := hB.trans (hB1.mono hB.size)
      go_wp2_with fail
      go_ret
      exact ⟨ret_bool (by first | rfl | simp), hB⟩
    · obtain ⟨m, h1, h2, h3, h4⟩ := lexR_begin _ 0 he
      rw [Nat.zero_add] at h1
      rw [len_list] at h2
      have H2 := hid (fun w => lex_short (s := s.extract 0 m) (by rw [← len_list, take_list, List.length_take, len_list]; omega) ((congrArg (lexR 0) (take_list s m)).trans trip) w)
      have H3 := hid (fun w => lex_short (s := s.extract m s.size) (by rw [← len_list, drop_list, List.length_drop, len_list]; omega) ((congrArg (lexR 0) (drop_list s m)).trans h4) w)
      rw [h3] at H2
      rw [h1] at H1
      clear h1 h3 h4
      generalize (lexR 0 s.data.toList).1 = L at *
      generalize (lexR 0 s.data.toList).2.1 = e at *
      generalize (lexR 0 (List.take m s.data.toList)).1 = L2 at *
      generalize (lexR 0 (List.take m s.data.toList)).2.2 = n2 at *
      go_enter Tryd.func7, Tryd.ntmps7
      go_wp2_with fail
      refine (HH.out _).mono ?_
      rintro e w1 ⟨rfl, hB⟩
      go_wp2_with fail
      refine (H1.out _).mono ?_
      rintro e w2 ⟨ao, cap, rfl, -, hB1⟩
      replace hB := hB.trans (hB1.mono hB.size)
      clear hB1
      go_wp2_with fail
      refine (H2.out _).mono ?_
      rintro e w3 ⟨ao, cap, rfl, -, hB1⟩
      replace hB := hB.trans (hB1.mono hB.size)
      clear hB1
      go_wp2_with fail
      refine (H3.out _).mono ?_
      rintro e w4 ⟨ao, cap, rfl, -, hB1⟩
      replace hB := hB.trans (hB1.mono hB.size)
      clear hB1
      go_wp2_with fail
      go_ret
      exact ⟨ret_bool (by first | rfl | simp), hB⟩
end Go.Proofs.YtdnpglfmgbcjhaaDoor
