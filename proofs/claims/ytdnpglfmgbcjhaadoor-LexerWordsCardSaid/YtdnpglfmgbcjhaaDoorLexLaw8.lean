/- lexer: the statement LexerWords -/
import Derived.Test.YtdnpglfmgbcjhaaDoorLexLaw5
import Derived.Test.YtdnpglfmgbcjhaaDoorLexSame
import Derived.Test.YtdnpglfmgbcjhaaDoorRefDec
namespace Go.Proofs.YtdnpglfmgbcjhaaDoor
open Go.RowKit

def symS : ByteArray := ⟨#[61, 59, 60, 62, 40, 41, 123, 125, 91, 93, 44, 46, 58, 43, 45, 42, 47]⟩
def symC (k : Nat) : UInt8 := symS.data.toList.getD k 0
theorem sym_at : ∀ k : Nat, k < 17 → symS.extract k (k + 1) = ⟨#[symC k]⟩ ∧ (cls (symC k) = 8 ∨ cls (symC k) = 9) := by decide
theorem sym_slice (d : Nat) (h : d < 17) (w : World) : (Instr.slice 9 (.string ⟨#[61, 59, 60, 62, 40, 41, 123, 125, 91, 93, 44, 46, 58, 43, 45, 42, 47]⟩) (some (.int .i64 d)) (some (.int .i64 ((d : Int) + 1))) none).run Tryd.prog w = .ok (.string ⟨#[symC d]⟩) w := by
  have := slice_two symS d ((d : Int) + 1) (by omega) (by omega) (by show (d : Int) + 1 ≤ 17; omega) w
  have e1 : ((d : Int)).toNat = d := by omega
  have e2 : ((d : Int) + 1).toNat = d + 1 := by omega
  rw [e1, e2, (sym_at d h).1] at this
  exact this
theorem u64_bd {a : Int} (h : (Lit.int .u64 a).wf = true) : 0 ≤ a ∧ a ≤ 18446744073709551615 := by
  simpa [Lit.wf, IntKind.min, IntKind.max, IntKind.signed, IntKind.bits] using h
theorem name_is (s : ByteArray) (r : Bool) (w : World) (hs : s.size ≤ 9223372036854775807) (h : nameB s.data.toList = r) : Calls Tryd.prog 20 #[.string s] w fun e w' => e = .returned (.bool r) ∧ w = w' := by
  subst h; exact rname_any s w hs
theorem str_list (s : ByteArray) : (⟨s.data.toList.toArray⟩ : ByteArray) = s := by cases s; simp
def wordsT (nm tx D : ByteArray) (c : UInt8) : ByteArray := nm ++ ⟨#[c]⟩ ++ D ++ ⟨#[34]⟩ ++ tx ++ ⟨#[34]⟩
theorem wordsT_list (nm tx D : ByteArray) (c : UInt8) : (wordsT nm tx D c).data.toList = nm.data.toList ++ (c :: (D.data.toList ++ (34 :: (tx.data.toList ++ [34])))) := by
  simp [wordsT]

set_option maxHeartbeats 2000000 in
set_option maxRecDepth 100000 in
theorem words_go (nm tx : ByteArray) (num sym : Int) (w : World) (h0 : nm.size ≤ 9223372036854775807) (hn : nameB nm.data.toList = true) (ht : tx.size ≤ 400) (hu : 0 ≤ num ∧ num ≤ 18446744073709551615) (hy : 0 ≤ sym ∧ sym ≤ 255) : Calls Tryd.prog 10 #[.string nm, .int .u64 num, .int .u8 sym, .string tx] w fun e w' => e = .returned (.bool true) ∧ Below w.heap.size w w' := by
  have HH := hid (fun w => head_any w)
  have HN := hid (fun w => name_is nm true w h0 hn)
  have hnl : nm.size ≤ 24 := by
    unfold nameB at hn
    simp only [Bool.and_eq_true, decide_eq_true_eq] at hn
    have := hn.1.2.2
    rwa [len_list] at this
  obtain ⟨N, hN⟩ : ∃ N : Nat, num % 10000000000000 = (N : Int) := ⟨(num % 10000000000000).toNat, by omega⟩
  have hN2 : Int.tmod num 10000000000000 = (N : Int) := by rw [Int.tmod_eq_emod_of_nonneg hu.1]; exact hN
  have hNb : N < 10000000000000 := by omega
  obtain ⟨K, hK⟩ : ∃ K : Nat, sym % 17 = (K : Int) := ⟨(sym % 17).toNat, by omega⟩
  have hK2 : Int.tmod sym 17 = (K : Int) := by rw [Int.tmod_eq_emod_of_nonneg hy.1]; exact hK
  have hKb : K < 17 := by omega
  have HD := hid (fun w => rdec_any 13 N w (by omega) (by omega) (by omega) (by omega))
  obtain ⟨d1, d2, d3, d4⟩ := decF_spec 13 N (by omega) (by omega)
  have HSY := hid (fun w => sym_slice K hKb w)
  have HC := hid (sym_at K hKb).2
  have hDs : (⟨(decF 13 N).toArray⟩ : ByteArray).size ≤ 13 := by show (decF 13 N).toArray.size ≤ _; rw [List.size_toArray]; exact d2
  have hDl : (⟨(decF 13 N).toArray⟩ : ByteArray).data.toList = decF 13 N := by simp
  generalize hDD : (⟨(decF 13 N).toArray⟩ : ByteArray) = D at *
  have HDF := hid (fun (htx : ∀ b ∈ tx.data.toList, ¬ b = 34 ∧ ¬ b = 10) => lexR_words (tx := tx.data.toList) hn HC.out d1 d2 d3 (by rw [len_list]; exact ht) htx)
  rw [d4, ← hDl, len_list, len_list] at HDF
  have HDZ := hid hDl
  clear d1 d2 d3 d4 hDl hDD
  generalize symC K = c at *
  have hcs : (⟨#[c]⟩ : ByteArray).size = 1 := rfl
  obtain ⟨u1, u2⟩ := hu
  obtain ⟨y1, y2⟩ := hy
  go_enter Tryd.func10, Tryd.ntmps10  ;go_wp2_with fail  ;refine (HH.out _).mono ?_  ;rintro e w1 ⟨rfl, hB⟩  ;go_wp2_with fail  ;refine (HN.out _).mono ?_  ;rintro e w' ⟨rfl, rfl⟩
  go_wp2_with fail
  go_loopw [10] (fun s10 wr => ∃ k : Nat, s10 = .int .i64 k ∧ k ≤ tx.size ∧ Hid (∀ (j : Nat) (b : UInt8), j < k → tx.data.toList[j]? = some b → ¬ b = 34 ∧ ¬ b = 10) ∧ Below w.heap.size w wr) (fun s10 _ => tx.size - (intOf s10).toNat)
  case atStart => exact ⟨0, rfl, by omega, hid (fun j b hj => by omega), hB⟩
  case round =>
    clear hB
    obtain ⟨k, rfl, hk, HKK, hB⟩ := hrel
    by_cases hlt : k < tx.size
    · obtain ⟨b, hx⟩ : ∃ b, tx[k]'hlt = b := ⟨_, rfl⟩
      have HB := hid (show tx.data.toList[k]? = some b by rw [← hx]; exact Lib.data_getElem? tx k hlt)
      have hI : (k : Int) < (tx.size : Int) := by omega
      clear hN hN2 hK hK2 HDF HD HSY
      by_cases h34 : b.toNat = 34
      · have hb1 : ((b.toNat : Int) == 34) = true := by rw [h34]; rfl
        clear h34
        go_wp2_with fail
        go_ret
        exact ⟨ret_bool (by first | rfl | simp), hB⟩
      · have hb1 : ((b.toNat : Int) == 34) = false := by rw [beq_eq_false_iff_ne]; omega
        by_cases h10 : b.toNat = 10
        · have hb2 : ((b.toNat : Int) == 10) = true := by rw [h10]; rfl
          clear h34 h10
          go_wp2_with fail
          go_ret
          exact ⟨ret_bool (by first | rfl | simp), hB⟩
        · have hb2 : ((b.toNat : Int) == 10) = false := by rw [beq_eq_false_iff_ne]; omega
          have HB3 := hid (show ¬ b = 34 ∧ ¬ b = 10 from ⟨fun e => h34 (by rw [e]; rfl), fun e => h10 (by rw [e]; rfl)⟩)
          clear h34 h10
          go_wp2_with fail
          go_roundw
          case rel =>
            refine ⟨k + 1, by go_num, by omega, hid (fun j d hj hd => ?_), hB⟩
            by_cases e : j = k
            · subst e; rw [HB.out] at hd; cases hd; exact HB3.out
            · exact HKK.out j d (by omega) hd
          case measure => simp [intOf]; omega
    · obtain rfl : k = tx.size := by omega
      have htx : ∀ b ∈ tx.data.toList, ¬ b = 34 ∧ ¬ b = 10 := by
        intro b hb
        obtain ⟨j, hj⟩ := List.getElem?_of_mem hb
        exact HKK.out j b (by have := (List.getElem?_eq_some_iff.1 hj).1; rwa [len_list] at this) hj
      have hlx := HDF.out htx
      rw [← wordsT_list] at hlx
      have e34 : (⟨#[34]⟩ : ByteArray).size = 1 := rfl
      have hws : (wordsT nm tx D c).size ≤ 5000 := by
        unfold wordsT
        simp only [ByteArray.size_append, hcs, e34]
        omega
      have HL := hid (fun w => lex_short hws hlx w)
      unfold wordsT at HL
      have sl := HSY.out
      obtain ⟨Lw, hLw⟩ : ∃ Lw : List Tok, [⟨1, nm.data.toList, 0, 0⟩, ⟨4, [c], 0, nm.size⟩, ⟨2, D.data.toList, (N : Int), nm.size + 1⟩, ⟨3, tx.data.toList, 0, nm.size + 1 + D.size⟩] = Lw := ⟨_, rfl⟩
      rw [hLw] at HL
      have hll : Lw.length = 4 := by rw [← hLw]; rfl
      rw [hll] at HL
      have HLW := hid hLw
      clear hLw hll
      clear hlx htx HDF hws HKK
      go_wp2_with fail
      refine (HD.out _).mono ?_
      rintro e w' ⟨rfl, rfl⟩
      go_wp2_with fail
      refine (HL.out _).mono ?_
      rintro e w3 ⟨ao, cap, rfl, hT, hB1⟩
      replace hB := hB.trans (hB1.mono hB.size)
      clear hB1
      obtain ⟨b, off, rfl, _, a00, a01, a02, a03⟩ := hT.get (i := 0) (t := ⟨1, nm.data.toList, 0, 0⟩) (by rw [← HLW.out]; rfl)
      obtain ⟨_, _, hq, _, a10, a11, a12, a13⟩ := hT.get (i := 1) (t := ⟨4, [c], 0, nm.size⟩) (by rw [← HLW.out]; rfl)
      cases hq
      obtain ⟨_, _, hq, _, a20, a21, a22, a23⟩ := hT.get (i := 2) (t := ⟨2, D.data.toList, (N : Int), nm.size + 1⟩) (by rw [← HLW.out]; rfl)
      cases hq
      obtain ⟨_, _, hq, _, a30, a31, a32, a33⟩ := hT.get (i := 3) (t := ⟨3, tx.data.toList, 0, nm.size + 1 + D.size⟩) (by rw [← HLW.out]; rfl)
      cases hq
      dsimp only at a00 a01 a02 a03 a10 a11 a12 a13 a20 a21 a22 a23 a30 a31 a32 a33
      rw [str_list] at a01 a21 a31
      push_cast at a03 a13 a23 a33
      have b00 : w3.cell? ⟨b, off, none⟩ = some (.int .i64 1) := a00
      have b01 : w3.cell? ⟨b, off + 1, none⟩ = some (.string nm) := a01
      have b02 : w3.cell? ⟨b, off + 2, none⟩ = some (.int .i64 0) := a02
      have b10 : w3.cell? ⟨b, off + 4, none⟩ = some (.int .i64 4) := a10
      have b11 : w3.cell? ⟨b, off + 5, none⟩ = some (.string ⟨#[c]⟩) := a11
      have b12 : w3.cell? ⟨b, off + 6, none⟩ = some (.int .i64 0) := a12
      have b20 : w3.cell? ⟨b, off + 8, none⟩ = some (.int .i64 2) := a20
      have b21 : w3.cell? ⟨b, off + 9, none⟩ = some (.string D) := a21
      have b22 : w3.cell? ⟨b, off + 10, none⟩ = some (.int .i64 N) := a22
      have b30 : w3.cell? ⟨b, off + 12, none⟩ = some (.int .i64 3) := a30
      have b31 : w3.cell? ⟨b, off + 13, none⟩ = some (.string tx) := a31
      have b32 : w3.cell? ⟨b, off + 14, none⟩ = some (.int .i64 0) := a32
      clear hT a00 a01 a02 a10 a11 a12 a20 a21 a22 a30 a31 a32
      go_wp2_with fail
      go_ret
      exact ⟨ret_bool (by first | rfl | simp), hB⟩
set_option maxHeartbeats 2000000 in
set_option maxRecDepth 100000 in
theorem words_fin (nm : ByteArray) (num sym : Int) (tx : ByteArray) (w : World) (_h0 : nm.size ≤ maxLen) (h1 : (Lit.int .u64 num).wf = true) (h2 : (Lit.int .u8 sym).wf = true) (_h3 : tx.size ≤ maxLen) : Calls Tryd.prog 10 #[.string nm, .int .u64 num, .int .u8 sym, .string tx] w fun e w' => e = .returned (.bool true) ∧ Below w.heap.size w w' := by
  have u := u64_bd h1
  have y := u8_bd h2
  have h0 : nm.size ≤ 9223372036854775807 := by unfold maxLen at _h0; omega
  by_cases h400 : 400 < tx.size
  · have HH := hid (fun w => head_any w)
    cases hn : nameB nm.data.toList with
    | true =>
      have HN := hid (fun w => name_is nm true w h0 hn)
      clear hn u y h1 h2
      go_enter Tryd.func10, Tryd.ntmps10  ;go_wp2_with fail  ;refine (HH.out _).mono ?_  ;rintro e w1 ⟨rfl, hB⟩  ;go_wp2_with fail  ;refine (HN.out _).mono ?_  ;rintro e w' ⟨rfl, rfl⟩
      go_wp2_with fail
      go_ret
      exact ⟨ret_bool (by first | rfl | simp), hB⟩
    | false =>
      have HN := hid (fun w => name_is nm false w h0 hn)
      clear hn u y h1 h2
      go_enter Tryd.func10, Tryd.ntmps10  ;go_wp2_with fail  ;refine (HH.out _).mono ?_  ;rintro e w1 ⟨rfl, hB⟩  ;go_wp2_with fail  ;refine (HN.out _).mono ?_  ;rintro e w' ⟨rfl, rfl⟩
      go_wp2_with fail
      go_ret
      exact ⟨ret_bool (by first | rfl | simp), hB⟩
  · cases hn : nameB nm.data.toList with
    | true => exact words_go nm tx num sym w h0 hn (by omega) u y
    | false =>
      have HH := hid (fun w => head_any w)
      have HN := hid (fun w => name_is nm false w h0 hn)
      clear hn u y h1 h2
      go_enter Tryd.func10, Tryd.ntmps10  ;go_wp2_with fail  ;refine (HH.out _).mono ?_  ;rintro e w1 ⟨rfl, hB⟩  ;go_wp2_with fail  ;refine (HN.out _).mono ?_  ;rintro e w' ⟨rfl, rfl⟩
      go_wp2_with fail
      go_ret
      exact ⟨ret_bool (by first | rfl | simp), hB⟩
end Go.Proofs.YtdnpglfmgbcjhaaDoor
