/- calendar: the statement MatchesReference -/
import Derived.Test.YtlikkplipofghaaDoorCalRef3
namespace Go.Proofs.YtlikkplipofghaaDoor
open Go.RowKit


set_option maxHeartbeats 4000000 in
set_option maxRecDepth 100000 in
theorem matches_short (n s m a : Int) (text : ByteArray) (w : World) (hL : Lay w) (hs : text.size ≤ 20) : Calls Tryd.prog 3 #[.int .i64 n, .int .i64 s, .int .i64 m, .int .i64 a, .string text] w fun e w' => e = .returned (.bool true) ∧ Below w.heap.size w w' := by
  have hI : ¬ 20 < (text.size : Int) := by omega
  have h1 := fun w => moment_any n s w
  have h2 := fun w => rmoment_any n s w
  have h3 := fun w => split_any m w
  have h4 := fun w => rsplit_any m w
  have h5 := fun w => sid_any m w
  have h6 := fun w => rsid_any m w
  have h7 := fun w hL => text_any m w hL
  have h8 := fun w => rtext_any m w
  have h9 := fun w hL => parse_any text w (by omega) hL
  have h10 := fun w => rparse_any text w (by omega)
  generalize momV n s = v1 at *
  generalize momE n s = e1 at *
  generalize splN m = v2 at *
  generalize splS m = v3 at *
  generalize mE m = e2 at *
  generalize sidV m = v4 at *
  generalize (⟨(textV m).toArray⟩ : ByteArray) = T at *
  generalize parseV text.data.toList = v5 at *
  generalize parseE text.data.toList = e3 at *
  have H1 := hid h1
  have H2 := hid h2
  have H3 := hid h3
  have H4 := hid h4
  have H5 := hid h5
  have H6 := hid h6
  have H7 := hid h7
  have H8 := hid h8
  have H9 := hid h9
  have H10 := hid h10
  clear h1 h2 h3 h4 h5 h6 h7 h8 h9 h10
  go_enter Tryd.func3, Tryd.ntmps3
  go_wp2_with fail  ;refine (head_any _ hL).mono ?_  ;rintro e w1 ⟨rfl, hB1⟩  ;have hL1 := hL.below hB1  ;go_wp2_with fail
  refine (H1.out _).mono ?_
  rintro e w' ⟨rfl, rfl⟩  ;go_wp2_with fail
  refine (H2.out _).mono ?_
  rintro e w' ⟨rfl, rfl⟩  ;go_wp2_with fail
  refine (H3.out _).mono ?_
  rintro e w' ⟨rfl, rfl⟩  ;go_wp2_with fail
  refine (H4.out _).mono ?_
  rintro e w' ⟨rfl, rfl⟩  ;go_wp2_with fail
  refine (H5.out _).mono ?_
  rintro e w' ⟨rfl, rfl⟩  ;go_wp2_with fail
  refine (H6.out _).mono ?_
  rintro e w' ⟨rfl, rfl⟩  ;go_wp2_with fail
  refine (H7.out _ hL1).mono ?_
  rintro e w2 ⟨rfl, hB2⟩
  have hL2 := hL1.below hB2
  go_wp2_with fail
  refine (H8.out _).mono ?_
  rintro e w3 ⟨rfl, hB3⟩
  have hL3 := hL2.below hB3
  go_wp2_with fail
  refine (H9.out _ hL3).mono ?_
  rintro e w4 ⟨rfl, hB4⟩
  go_wp2_with fail
  refine (H10.out _).mono ?_
  rintro e w5 ⟨rfl, hB5⟩
  go_wp2_with fail
  refine (next_any m a _).mono ?_
  rintro e w6 ⟨v6, e6, rfl, hn, hB6⟩
  have HN := hid hn
  clear hn
  go_wp2_with fail
  refine (rnext_any m a _).mono ?_
  rintro e w' ⟨v7, e7, rfl, hn', rfl⟩
  obtain ⟨rfl, rfl⟩ := HN.out.uniq hn'
  clear HN hn'
  go_wp2_with fail
  go_ret
  exact ⟨ret_bool (by first | rfl | (simp [*])), bthen hB1 (bthen hB2 (bthen hB3 (bthen hB4 (bthen hB5 hB6))))⟩

set_option maxHeartbeats 2000000 in
set_option maxRecDepth 100000 in
theorem matches_walk (n s m a : Int) (text : ByteArray) (w : World) (hs : text.size ≤ maxLen) (hL : Lay w) : Calls Tryd.prog 3 #[.int .i64 n, .int .i64 s, .int .i64 m, .int .i64 a, .string text] w fun e w' => e = .returned (.bool true) ∧ Below w.heap.size w w' := by
  by_cases h : text.size ≤ 20
  · exact matches_short n s m a text w hL h
  · have hI : 20 < (text.size : Int) := by omega
    have hs2 : text.size ≤ 9223372036854775807 := hs
    clear h hs
    go_enter Tryd.func3, Tryd.ntmps3
    go_wp2_with fail  ;refine (head_any _ hL).mono ?_  ;rintro e w1 ⟨rfl, hB1⟩  ;have hL1 := hL.below hB1  ;go_wp2_with fail
    go_ret
    exact ⟨rfl, hB1⟩

theorem matches_fin (n s m a : Int) (text : ByteArray) (w : World) (_h0 : (Lit.int .i64 n).wf = true) (_h1 : (Lit.int .i64 s).wf = true) (_h2 : (Lit.int .i64 m).wf = true) (_h3 : (Lit.int .i64 a).wf = true) (h4 : text.size ≤ maxLen) (hL : Lay w) :
    Calls Tryd.prog 3 #[.int .i64 n, .int .i64 s, .int .i64 m, .int .i64 a, .string text] w fun e w' => e = .returned (.bool true) ∧ Below w.heap.size w w' := matches_walk n s m a text w h4 hL
theorem back_fin (m n s : Int) (text : ByteArray) (w : World) (_h0 : (Lit.int .i64 m).wf = true) (_h1 : (Lit.int .i64 n).wf = true) (_h2 : (Lit.int .i64 s).wf = true) (h4 : text.size ≤ maxLen) (hL : Lay w) :
    Calls Tryd.prog 4 #[.int .i64 m, .int .i64 n, .int .i64 s, .string text] w fun e w' => e = .returned (.bool true) ∧ Below w.heap.size w w' := back_walk m n s text w h4 hL
end Go.Proofs.YtlikkplipofghaaDoor
