/- calendar: the statement Back -/
import Derived.Test.YtlikkplipofghaaDoorCalHead
namespace Go.Proofs.YtlikkplipofghaaDoor
open Go.RowKit


theorem num_small : ∀ n : Nat, n < 400 → Lib.atoiAll (Lib.itoa (n : Int)) = .ok (n : Int) ∧ Lib.indexByte (Lib.itoa (n : Int)) 46 = -1 := by decide +kernel
theorem num_ok (x : Int) (h0 : 0 ≤ x) (h1 : x < 400) : numB (Lib.itoa x) = true ∧ atoiV (Lib.itoa x) = x ∧ Lib.indexByte (Lib.itoa x) 46 = -1 := by
  obtain ⟨n, rfl⟩ : ∃ n : Nat, x = (n : Int) := ⟨x.toNat, by omega⟩
  obtain ⟨h2, h3⟩ := num_small n (by omega)
  have hv : atoiV (Lib.itoa (n : Int)) = n := by unfold atoiV; rw [h2]
  refine ⟨?_, hv, h3⟩
  unfold numB
  rw [hv]
  unfold atoiB
  rw [h2]
  simp
theorem idx_append (a b : List UInt8) (h : Lib.indexByte a 46 = -1) : Lib.indexByte (a ++ 46 :: b) 46 = a.length := by
  induction a with
  | nil => simp [Lib.indexByte]
  | cons c a ih =>
    rw [Lib.indexByte] at h
    by_cases hc : c == 46
    · rw [if_pos hc] at h; cases h
    · rw [if_neg hc] at h
      by_cases hi : Lib.indexByte a 46 == -1
      · rw [List.cons_append, Lib.indexByte, if_neg hc, ih (by simpa using hi), if_neg (by simp <;> omega)]
        simp
      · rw [if_neg hi] at h
        have := (idx_lt a 46).2
        simp at hi
        omega
theorem cut_text (a b : List UInt8) (h : Lib.indexByte a 46 = -1) : cutF (a ++ 46 :: b) = (a, b) := by
  unfold cutF
  rw [idx_append a b h, if_pos (by omega)]
  simp
theorem idx_split (l : List UInt8) (h : 0 ≤ Lib.indexByte l 46) : l = l.take (Lib.indexByte l 46).toNat ++ 46 :: l.drop ((Lib.indexByte l 46).toNat + 1) := by
  obtain ⟨o, ho⟩ : ∃ o : Nat, Lib.indexByte l 46 = (o : Int) := ⟨(Lib.indexByte l 46).toNat, by omega⟩
  have h1 := (Lib.indexByte_some ho).1
  rw [ho]
  obtain ⟨h2, h3⟩ := List.getElem?_eq_some_iff.1 h1
  conv => lhs; rw [← List.take_append_drop o l, List.drop_eq_getElem_cons h2, h3]
  simp

/-- the string of a moment is parsed as the moment -/
theorem parse_text (m : Int) (h0 : 0 ≤ m) (h1 : m ≤ 38399) : parseV (textF m) = m ∧ parseE (textF m) = 0 := by
  obtain ⟨n1, n2, n3⟩ := num_ok (m / 96) (by omega) (by omega)
  obtain ⟨s1, s2, s3⟩ := num_ok (m % 96) (by omega) (by omega)
  have hc : cutF (textF m) = (Lib.itoa (m / 96), Lib.itoa (m % 96)) := cut_text _ _ n3
  have hok : parseOk (textF m) := by
    unfold parseOk parseA parseS
    rw [hc]
    dsimp only
    rw [n2, s2]
    exact ⟨⟨n1, s1⟩, by omega, by omega⟩
  unfold parseV parseE
  rw [if_pos hok, if_pos hok]
  unfold parseA parseS
  rw [hc]
  dsimp only
  rw [n2, s2]
  exact ⟨by omega, rfl⟩
/-- what is parsed is the string of its moment -/
theorem text_parse (l : List UInt8) (h : parseOk l) : textF (parseA l * 96 + parseS l) = l ∧ 0 ≤ parseA l * 96 + parseS l ∧ parseA l * 96 + parseS l ≤ 38399 := by
  obtain ⟨⟨h1, h2⟩, ⟨h3, h4⟩, h5, h6⟩ := h
  refine ⟨?_, by omega, by omega⟩
  unfold textF
  rw [show (parseA l * 96 + parseS l) / 96 = parseA l by omega, show (parseA l * 96 + parseS l) % 96 = parseS l by omega]
  unfold numB at h1 h2
  simp only [Bool.and_eq_true, decide_eq_true_eq] at h1 h2
  unfold parseA parseS
  rw [h1.2, h2.2]
  by_cases hi : 0 ≤ Lib.indexByte l 46
  · unfold cutF
    rw [if_pos hi]
    exact (idx_split l hi).symm
  · have hc : cutF l = (l, []) := by unfold cutF; rw [if_neg hi]
    rw [hc] at h2
    have h7 : atoiB [] = true := h2.1
    exact absurd h7 (by decide)

set_option maxHeartbeats 8000000 in
set_option maxRecDepth 100000 in
theorem back_short (m night slot : Int) (text : ByteArray) (w : World) (hL : Lay w) (hs : text.size ≤ 20) : Calls Tryd.prog 4 #[.int .i64 m, .int .i64 night, .int .i64 slot, .string text] w fun e w' => e = .returned (.bool true) ∧ Below w.heap.size w w' := by
  obtain ⟨l, hl⟩ : ∃ l, text.data.toList = l := ⟨_, rfl⟩
  have hlt : (⟨l.toArray⟩ : ByteArray) = text := by rw [← hl]
  have hI : ¬ 20 < (text.size : Int) := by omega
  by_cases hm : mOk m
  · obtain ⟨m0, m1⟩ := hm
    obtain ⟨e1, e2⟩ := parse_text m m0 m1
    have hs1 := fun w => split_yes m w m0 m1
    have hm1 := fun w => moment_yes (m / 96) (m % 96) w (by omega) (by omega)
    rw [show m / 96 * 96 + m % 96 = m by omega] at hm1
    have ht1 := fun w hL => text_yes m w m0 m1 hL
    have hp1 := fun w hL => parse_any ⟨(textF m).toArray⟩ w (by
      have z1 := Lib.itoa_length_le (m / 96) (by omega) (by omega)
      have z2 := Lib.itoa_length_le (m % 96) (by omega) (by omega)
      show (textF m).toArray.size ≤ 100000
      simp only [textF, List.size_toArray, List.length_append, List.length_cons]
      omega) hL
    rw [show parseV (⟨(textF m).toArray⟩ : ByteArray).data.toList = m from e1, show parseE (⟨(textF m).toArray⟩ : ByteArray).data.toList = 0 from e2] at hp1
    generalize (⟨(textF m).toArray⟩ : ByteArray) = T at *
    generalize m / 96 = n at *
    generalize m % 96 = s at *
    have HS1 := hid hs1
    have HM1 := hid hm1
    have HT1 := hid ht1
    have HP1 := hid hp1
    clear hs1 hm1 ht1 hp1 e1 e2
    by_cases hns : nsOk night slot
    · obtain ⟨hnn, hss⟩ := hns
      have HM2 := hid (fun w => moment_yes night slot w hnn hss)
      have hs2 := fun w => split_yes (night * 96 + slot) w (by omega) (by omega)
      rw [show (night * 96 + slot) / 96 = night by omega, show (night * 96 + slot) % 96 = slot by omega] at hs2
      generalize night * 96 + slot = x at *
      have HS2 := hid hs2
      clear hs2 hnn hss
      by_cases hp : parseOk l
      · obtain ⟨t1, t2, t3⟩ := text_parse l hp
        have hp3 := fun w hL => parse_any text w (by omega) hL
        rw [hl, show parseV l = parseA l * 96 + parseS l from if_pos hp, show parseE l = 0 from if_pos hp] at hp3
        have ht3 := fun w hL => text_yes (parseA l * 96 + parseS l) w t2 t3 hL
        rw [t1, hlt] at ht3
        generalize parseA l * 96 + parseS l = y at *
        have HP3 := hid hp3
        have HT3 := hid ht3
        clear hp3 ht3 hp t1 hl hlt
        go_enter Tryd.func4, Tryd.ntmps4
        go_wp2_with fail  ;refine (head_any _ hL).mono ?_  ;rintro e w1 ⟨rfl, hB1⟩  ;have hL1 := hL.below hB1  ;go_wp2_with fail
        refine (HS1.out _).mono ?_
        rintro e w' ⟨rfl, rfl⟩  ;go_wp2_with fail
        refine (HM1.out _).mono ?_
        rintro e w' ⟨rfl, rfl⟩  ;go_wp2_with fail
        refine (HT1.out _ hL1).mono ?_
        rintro e w2 ⟨rfl, hB2⟩
        have hL2 := hL1.below hB2
        go_wp2_with fail
        refine (HP1.out _ hL2).mono ?_
        rintro e w3 ⟨rfl, hB3⟩
        have hL3 := hL2.below hB3
        go_wp2_with fail
        refine (HM2.out _).mono ?_
        rintro e w' ⟨rfl, rfl⟩  ;go_wp2_with fail
        refine (HS2.out _).mono ?_
        rintro e w' ⟨rfl, rfl⟩  ;go_wp2_with fail
        refine (HP3.out _ hL3).mono ?_
        rintro e w4 ⟨rfl, hB4⟩
        have hL4 := hL3.below hB4
        go_wp2_with fail
        refine (HT3.out _ hL4).mono ?_
        rintro e w5 ⟨rfl, hB5⟩
        go_wp2_with fail
        go_ret
        exact ⟨ret_bool (by first | rfl | (simp [*])), (bthen hB1 (bthen hB2 (bthen hB3 (bthen hB4 hB5))))⟩
      · have hp3 := fun w hL => parse_any text w (by omega) hL
        rw [hl, show parseV l = 0 from if_neg hp, show parseE l = 5 from if_neg hp] at hp3
        have HP3 := hid hp3
        clear hp3 hp hl hlt
        go_enter Tryd.func4, Tryd.ntmps4
        go_wp2_with fail  ;refine (head_any _ hL).mono ?_  ;rintro e w1 ⟨rfl, hB1⟩  ;have hL1 := hL.below hB1  ;go_wp2_with fail
        refine (HS1.out _).mono ?_
        rintro e w' ⟨rfl, rfl⟩  ;go_wp2_with fail
        refine (HM1.out _).mono ?_
        rintro e w' ⟨rfl, rfl⟩  ;go_wp2_with fail
        refine (HT1.out _ hL1).mono ?_
        rintro e w2 ⟨rfl, hB2⟩
        have hL2 := hL1.below hB2
        go_wp2_with fail
        refine (HP1.out _ hL2).mono ?_
        rintro e w3 ⟨rfl, hB3⟩
        have hL3 := hL2.below hB3
        go_wp2_with fail
        refine (HM2.out _).mono ?_
        rintro e w' ⟨rfl, rfl⟩  ;go_wp2_with fail
        refine (HS2.out _).mono ?_
        rintro e w' ⟨rfl, rfl⟩  ;go_wp2_with fail
        refine (HP3.out _ hL3).mono ?_
        rintro e w4 ⟨rfl, hB4⟩
        have hL4 := hL3.below hB4
        go_wp2_with fail
        go_ret
        exact ⟨ret_bool (by first | rfl | (simp [*])), (bthen hB1 (bthen hB2 (bthen hB3 hB4)))⟩
    · have HM2 := hid (fun w => moment_no night slot w hns)
      clear hns
      by_cases hp : parseOk l
      · obtain ⟨t1, t2, t3⟩ := text_parse l hp
        have hp3 := fun w hL => parse_any text w (by omega) hL
        rw [hl, show parseV l = parseA l * 96 + parseS l from if_pos hp, show parseE l = 0 from if_pos hp] at hp3
        have ht3 := fun w hL => text_yes (parseA l * 96 + parseS l) w t2 t3 hL
        rw [t1, hlt] at ht3
        generalize parseA l * 96 + parseS l = y at *
        have HP3 := hid hp3
        have HT3 := hid ht3
        clear hp3 ht3 hp t1 hl hlt
        go_enter Tryd.func4, Tryd.ntmps4
        go_wp2_with fail  ;refine (head_any _ hL).mono ?_  ;rintro e w1 ⟨rfl, hB1⟩  ;have hL1 := hL.below hB1  ;go_wp2_with fail
        refine (HS1.out _).mono ?_
        rintro e w' ⟨rfl, rfl⟩  ;go_wp2_with fail
        refine (HM1.out _).mono ?_
        rintro e w' ⟨rfl, rfl⟩  ;go_wp2_with fail
        refine (HT1.out _ hL1).mono ?_
        rintro e w2 ⟨rfl, hB2⟩
        have hL2 := hL1.below hB2
        go_wp2_with fail
        refine (HP1.out _ hL2).mono ?_
        rintro e w3 ⟨rfl, hB3⟩
        have hL3 := hL2.below hB3
        go_wp2_with fail
        refine (HM2.out _).mono ?_
        rintro e w' ⟨rfl, rfl⟩  ;go_wp2_with fail
        refine (HP3.out _ hL3).mono ?_
        rintro e w4 ⟨rfl, hB4⟩
        have hL4 := hL3.below hB4
        go_wp2_with fail
        refine (HT3.out _ hL4).mono ?_
        rintro e w5 ⟨rfl, hB5⟩
        go_wp2_with fail
        go_ret
        exact ⟨ret_bool (by first | rfl | (simp [*])), (bthen hB1 (bthen hB2 (bthen hB3 (bthen hB4 hB5))))⟩
      · have hp3 := fun w hL => parse_any text w (by omega) hL
        rw [hl, show parseV l = 0 from if_neg hp, show parseE l = 5 from if_neg hp] at hp3
        have HP3 := hid hp3
        clear hp3 hp hl hlt
        go_enter Tryd.func4, Tryd.ntmps4
        go_wp2_with fail  ;refine (head_any _ hL).mono ?_  ;rintro e w1 ⟨rfl, hB1⟩  ;have hL1 := hL.below hB1  ;go_wp2_with fail
        refine (HS1.out _).mono ?_
        rintro e w' ⟨rfl, rfl⟩  ;go_wp2_with fail
        refine (HM1.out _).mono ?_
        rintro e w' ⟨rfl, rfl⟩  ;go_wp2_with fail
        refine (HT1.out _ hL1).mono ?_
        rintro e w2 ⟨rfl, hB2⟩
        have hL2 := hL1.below hB2
        go_wp2_with fail
        refine (HP1.out _ hL2).mono ?_
        rintro e w3 ⟨rfl, hB3⟩
        have hL3 := hL2.below hB3
        go_wp2_with fail
        refine (HM2.out _).mono ?_
        rintro e w' ⟨rfl, rfl⟩  ;go_wp2_with fail
        refine (HP3.out _ hL3).mono ?_
        rintro e w4 ⟨rfl, hB4⟩
        have hL4 := hL3.below hB4
        go_wp2_with fail
        go_ret
        exact ⟨ret_bool (by first | rfl | (simp [*])), (bthen hB1 (bthen hB2 (bthen hB3 hB4)))⟩
  · have HS1 := hid (fun w => split_no m w hm)
    clear hm
    by_cases hns : nsOk night slot
    · obtain ⟨hnn, hss⟩ := hns
      have HM2 := hid (fun w => moment_yes night slot w hnn hss)
      have hs2 := fun w => split_yes (night * 96 + slot) w (by omega) (by omega)
      rw [show (night * 96 + slot) / 96 = night by omega, show (night * 96 + slot) % 96 = slot by omega] at hs2
      generalize night * 96 + slot = x at *
      have HS2 := hid hs2
      clear hs2 hnn hss
      by_cases hp : parseOk l
      · obtain ⟨t1, t2, t3⟩ := text_parse l hp
        have hp3 := fun w hL => parse_any text w (by omega) hL
        rw [hl, show parseV l = parseA l * 96 + parseS l from if_pos hp, show parseE l = 0 from if_pos hp] at hp3
        have ht3 := fun w hL => text_yes (parseA l * 96 + parseS l) w t2 t3 hL
        rw [t1, hlt] at ht3
        generalize parseA l * 96 + parseS l = y at *
        have HP3 := hid hp3
        have HT3 := hid ht3
        clear hp3 ht3 hp t1 hl hlt
        go_enter Tryd.func4, Tryd.ntmps4
        go_wp2_with fail  ;refine (head_any _ hL).mono ?_  ;rintro e w1 ⟨rfl, hB1⟩  ;have hL1 := hL.below hB1  ;go_wp2_with fail
        refine (HS1.out _).mono ?_
        rintro e w' ⟨rfl, rfl⟩  ;go_wp2_with fail
        refine (HM2.out _).mono ?_
        rintro e w' ⟨rfl, rfl⟩  ;go_wp2_with fail
        refine (HS2.out _).mono ?_
        rintro e w' ⟨rfl, rfl⟩  ;go_wp2_with fail
        refine (HP3.out _ hL1).mono ?_
        rintro e w4 ⟨rfl, hB4⟩
        have hL4 := hL1.below hB4
        go_wp2_with fail
        refine (HT3.out _ hL4).mono ?_
        rintro e w5 ⟨rfl, hB5⟩
        go_wp2_with fail
        go_ret
        exact ⟨ret_bool (by first | rfl | (simp [*])), (bthen hB1 (bthen hB4 hB5))⟩
      · have hp3 := fun w hL => parse_any text w (by omega) hL
        rw [hl, show parseV l = 0 from if_neg hp, show parseE l = 5 from if_neg hp] at hp3
        have HP3 := hid hp3
        clear hp3 hp hl hlt
        go_enter Tryd.func4, Tryd.ntmps4
        go_wp2_with fail  ;refine (head_any _ hL).mono ?_  ;rintro e w1 ⟨rfl, hB1⟩  ;have hL1 := hL.below hB1  ;go_wp2_with fail
        refine (HS1.out _).mono ?_
        rintro e w' ⟨rfl, rfl⟩  ;go_wp2_with fail
        refine (HM2.out _).mono ?_
        rintro e w' ⟨rfl, rfl⟩  ;go_wp2_with fail
        refine (HS2.out _).mono ?_
        rintro e w' ⟨rfl, rfl⟩  ;go_wp2_with fail
        refine (HP3.out _ hL1).mono ?_
        rintro e w4 ⟨rfl, hB4⟩
        have hL4 := hL1.below hB4
        go_wp2_with fail
        go_ret
        exact ⟨ret_bool (by first | rfl | (simp [*])), (bthen hB1 hB4)⟩
    · have HM2 := hid (fun w => moment_no night slot w hns)
      clear hns
      by_cases hp : parseOk l
      · obtain ⟨t1, t2, t3⟩ := text_parse l hp
        have hp3 := fun w hL => parse_any text w (by omega) hL
        rw [hl, show parseV l = parseA l * 96 + parseS l from if_pos hp, show parseE l = 0 from if_pos hp] at hp3
        have ht3 := fun w hL => text_yes (parseA l * 96 + parseS l) w t2 t3 hL
        rw [t1, hlt] at ht3
        generalize parseA l * 96 + parseS l = y at *
        have HP3 := hid hp3
        have HT3 := hid ht3
        clear hp3 ht3 hp t1 hl hlt
        go_enter Tryd.func4, Tryd.ntmps4
        go_wp2_with fail  ;refine (head_any _ hL).mono ?_  ;rintro e w1 ⟨rfl, hB1⟩  ;have hL1 := hL.below hB1  ;go_wp2_with fail
        refine (HS1.out _).mono ?_
        rintro e w' ⟨rfl, rfl⟩  ;go_wp2_with fail
        refine (HM2.out _).mono ?_
        rintro e w' ⟨rfl, rfl⟩  ;go_wp2_with fail
        refine (HP3.out _ hL1).mono ?_
        rintro e w4 ⟨rfl, hB4⟩
        have hL4 := hL1.below hB4
        go_wp2_with fail
        refine (HT3.out _ hL4).mono ?_
        rintro e w5 ⟨rfl, hB5⟩
        go_wp2_with fail
        go_ret
        exact ⟨ret_bool (by first | rfl | (simp [*])), (bthen hB1 (bthen hB4 hB5))⟩
      · have hp3 := fun w hL => parse_any text w (by omega) hL
        rw [hl, show parseV l = 0 from if_neg hp, show parseE l = 5 from if_neg hp] at hp3
        have HP3 := hid hp3
        clear hp3 hp hl hlt
        go_enter Tryd.func4, Tryd.ntmps4
        go_wp2_with fail  ;refine (head_any _ hL).mono ?_  ;rintro e w1 ⟨rfl, hB1⟩  ;have hL1 := hL.below hB1  ;go_wp2_with fail
        refine (HS1.out _).mono ?_
        rintro e w' ⟨rfl, rfl⟩  ;go_wp2_with fail
        refine (HM2.out _).mono ?_
        rintro e w' ⟨rfl, rfl⟩  ;go_wp2_with fail
        refine (HP3.out _ hL1).mono ?_
        rintro e w4 ⟨rfl, hB4⟩
        have hL4 := hL1.below hB4
        go_wp2_with fail
        go_ret
        exact ⟨ret_bool (by first | rfl | (simp [*])), (bthen hB1 hB4)⟩

set_option maxHeartbeats 2000000 in
theorem back_walk (m night slot : Int) (text : ByteArray) (w : World) (hs : text.size ≤ maxLen) (hL : Lay w) : Calls Tryd.prog 4 #[.int .i64 m, .int .i64 night, .int .i64 slot, .string text] w fun e w' => e = .returned (.bool true) ∧ Below w.heap.size w w' := by
  by_cases h : text.size ≤ 20
  · exact back_short m night slot text w hL h
  · have hI : 20 < (text.size : Int) := by omega
    have hs2 : text.size ≤ 9223372036854775807 := hs
    clear h hs
    go_enter Tryd.func4, Tryd.ntmps4
    go_wp2_with fail  ;refine (head_any _ hL).mono ?_  ;rintro e w1 ⟨rfl, hB1⟩  ;have hL1 := hL.below hB1  ;go_wp2_with fail
    go_ret
    exact ⟨rfl, hB1⟩
end Go.Proofs.YtlikkplipofghaaDoor
