/- lexer: the law's head -/
import Derived.Test.YtdnpglfmgbcjhaaDoorLexTok
namespace Go.Proofs.YtdnpglfmgbcjhaaDoor
open Go.RowKit

theorem lex_eq {s : ByteArray} {L : List Tok} {e n : Int} (hs : s.size ≤ 1000000) (h : lexL s.data.toList = (L, e, n)) (w : World) : Calls Tryd.prog 12 #[.string s] w fun en w' =>
    ∃ ao cap, en = .returned (.tuple #[.slice ao L.length cap, .int .i64 e, .int .i64 n]) ∧ Toks w' ao L ∧ Below w.heap.size w w' := by
  have := lex_any2 s w hs
  rw [h] at this
  exact this
theorem Toks.below {w w' : World} {ao : Option Addr} {L : List Tok} (h : Toks w ao L) (hB : Below w.heap.size w w') : Toks w' ao L := SlV.below h hB
def s1 : ByteArray := ⟨#[0x72, 0x6f, 0x77, 0x20, 0x61, 0x31, 0x20, 0x61, 0x74, 0x20, 0x37, 0x3e, 0x3d, 0x78, 0x23, 0x20, 0x79]⟩
def s2 : ByteArray := ⟨#[0x61, 0x20, 0x21, 0x62]⟩
def s3 : ByteArray := ⟨#[0x37, 0x78]⟩
def s4 : ByteArray := ⟨#[0x31, 0x32, 0x33, 0x34, 0x35, 0x36, 0x37, 0x38, 0x39, 0x30, 0x31, 0x32, 0x33, 0x34]⟩
def s5 : ByteArray := ⟨#[0x0a, 0x61, 0x62, 0x63, 0x64, 0x65, 0x66, 0x67, 0x68, 0x69, 0x6a, 0x6b, 0x6c, 0x6d, 0x6e, 0x6f, 0x70, 0x71, 0x72, 0x73, 0x74, 0x75, 0x76, 0x77, 0x78, 0x79]⟩
def s6 : ByteArray := ⟨#[0x74, 0x6f, 0x20, 0x22, 0x22, 0x20, 0x22, 0x61, 0x20, 0x62, 0x22, 0x3b]⟩
def s7 : ByteArray := ⟨#[0x61, 0x20, 0x22, 0x62]⟩
def L1 : List Tok := [⟨1, [0x72, 0x6f, 0x77], 0, 0⟩, ⟨1, [0x61, 0x31], 0, 4⟩, ⟨1, [0x61, 0x74], 0, 7⟩, ⟨2, [0x37], 7, 10⟩, ⟨4, [0x3e, 0x3d], 0, 11⟩, ⟨1, [0x78], 0, 13⟩]
def L6 : List Tok := [⟨1, [0x74, 0x6f], 0, 0⟩, ⟨3, [], 0, 3⟩, ⟨3, [0x61, 0x20, 0x62], 0, 6⟩, ⟨4, [0x3b], 0, 11⟩]
deriving instance DecidableEq for Tok
theorem e1 : lexL s1.data.toList = (L1, 0, 0) := by decide +kernel
theorem e2 : lexL s2.data.toList = ([], 3, 2) := by decide +kernel
theorem e3 : lexL s3.data.toList = ([], 4, 0) := by decide +kernel
theorem e4 : lexL s4.data.toList = ([], 4, 0) := by decide +kernel
theorem e5 : lexL s5.data.toList = ([], 2, 1) := by decide +kernel
theorem e6 : lexL s6.data.toList = (L6, 0, 0) := by decide +kernel
theorem e7 : lexL s7.data.toList = ([], 6, 2) := by decide +kernel

set_option maxHeartbeats 4000000 in
set_option maxRecDepth 100000 in
theorem head_any (w : World) : Calls Tryd.prog 11 #[] w fun e w' => e = .returned (.bool true) ∧ Below w.heap.size w w' := by
  have H1 := hid (fun w => lex_eq (s := s1) (by decide) e1 w)
  have H2 := hid (fun w => lex_eq (s := s2) (by decide) e2 w)
  have H3 := hid (fun w => lex_eq (s := s3) (by decide) e3 w)
  have H4 := hid (fun w => lex_eq (s := s4) (by decide) e4 w)
  have H5 := hid (fun w => lex_eq (s := s5) (by decide) e5 w)
  have H6 := hid (fun w => lex_eq (s := s6) (by decide) e6 w)
  have H7 := hid (fun w => lex_eq (s := s7) (by decide) e7 w)
  unfold s1 at H1
  unfold s2 at H2
  unfold s3 at H3
  unfold s4 at H4
  unfold s5 at H5
  unfold s6 at H6
  unfold s7 at H7
  go_enter Tryd.func11, Tryd.ntmps11
  go_wp2_with fail
  refine (H1.out _).mono ?_
  rintro e w1 ⟨ao, cap, rfl, hA, hB⟩
  go_wp2_with fail
  refine (H2.out _).mono ?_
  rintro e w2 ⟨ao2, cap2, rfl, -, hB1⟩
  replace hA := hA.below hB1  ;replace hB := hB.trans (hB1.mono hB.size)  ;clear hB1  ;go_wp2_with fail
  refine (H3.out _).mono ?_
  rintro e w3 ⟨ao3, cap3, rfl, -, hB1⟩
  replace hA := hA.below hB1  ;replace hB := hB.trans (hB1.mono hB.size)  ;clear hB1  ;go_wp2_with fail
  refine (H4.out _).mono ?_
  rintro e w4 ⟨ao4, cap4, rfl, -, hB1⟩
  replace hA := hA.below hB1  ;replace hB := hB.trans (hB1.mono hB.size)  ;clear hB1  ;go_wp2_with fail
  refine (H5.out _).mono ?_
  rintro e w5 ⟨ao5, cap5, rfl, -, hB1⟩
  replace hA := hA.below hB1  ;replace hB := hB.trans (hB1.mono hB.size)  ;clear hB1  ;go_wp2_with fail
  refine (H6.out _).mono ?_
  rintro e w6 ⟨ao6, cap6, rfl, hC, hB1⟩
  replace hA := hA.below hB1  ;replace hB := hB.trans (hB1.mono hB.size)  ;clear hB1  ;go_wp2_with fail
  refine (H7.out _).mono ?_
  rintro e w7 ⟨ao7, cap7, rfl, -, hB1⟩
  replace hA := hA.below hB1
  replace hC := hC.below hB1
  replace hB := hB.trans (hB1.mono hB.size)
  clear hB1
  obtain ⟨b, off, rfl, hb, a10, a11, a12, a13⟩ := hA.get (i := 1) rfl
  obtain ⟨_, _, hq, _, a30, a31, a32, a33⟩ := hA.get (i := 3) rfl
  cases hq
  obtain ⟨_, _, hq, _, a40, a41, a42, a43⟩ := hA.get (i := 4) rfl
  cases hq
  obtain ⟨_, _, hq, _, a50, a51, a52, a53⟩ := hA.get (i := 5) rfl
  cases hq
  obtain ⟨d, doff, rfl, hd, c10, c11, c12, c13⟩ := hC.get (i := 1) rfl
  obtain ⟨_, _, hq, _, c20, c21, c22, c23⟩ := hC.get (i := 2) rfl
  cases hq
  obtain ⟨_, _, hq, _, c30, c31, c32, c33⟩ := hC.get (i := 3) rfl
  cases hq
  have hl1 : L1.length = 6 := rfl
  have hl6 : L6.length = 4 := rfl
  dsimp only at a10 a11 a12 a13 a30 a31 a32 a33 a40 a41 a42 a43 a50 a51 a52 a53 c10 c11 c12 c13 c20 c21 c22 c23 c30 c31 c32 c33
  go_wp2_with fail
  go_ret
  exact ⟨ret_bool (by first | rfl | simp), hB⟩
end Go.Proofs.YtdnpglfmgbcjhaaDoor
