/- calendar: the reference -/
import Derived.Test.YtlikkplipofghaaDoorCalLaw3
namespace Go.Proofs.YtlikkplipofghaaDoor
open Go.RowKit

theorem ris_any (m : Int) (w : World) : Calls Tryd.prog 22 #[.int .i64 m] w fun e w' => e = .returned (.bool (decide (mOk m))) ∧ w = w' := by
  by_cases h0 : 0 ≤ m
  · by_cases h1 : m ≤ 38399
    · have e : decide (mOk m) = true := decide_eq_true ⟨h0, h1⟩
      rw [e]
      clear e
      go_enter Tryd.func22, Tryd.ntmps22
      go_wp2
      go_ret
      exact ⟨ret_bool (by first | rfl | (simp [*])), rfl⟩
    · have e : decide (mOk m) = false := decide_eq_false (fun h => h1 h.2)
      rw [e]
      clear e
      go_enter Tryd.func22, Tryd.ntmps22
      go_wp2
      go_ret
      exact ⟨ret_bool (by first | rfl | (simp [*])), rfl⟩
  · have e : decide (mOk m) = false := decide_eq_false (fun h => h0 h.1)
    rw [e]
    clear e
    go_enter Tryd.func22, Tryd.ntmps22
    go_wp2
    go_ret
    exact ⟨ret_bool (by first | rfl | (simp [*])), rfl⟩
theorem ris_yes (m : Int) (w : World) (h : mOk m) : Calls Tryd.prog 22 #[.int .i64 m] w fun e w' => e = .returned (.bool true) ∧ w = w' := by
  have := ris_any m w; rwa [decide_eq_true h] at this
theorem ris_no (m : Int) (w : World) (h : ¬ mOk m) : Calls Tryd.prog 22 #[.int .i64 m] w fun e w' => e = .returned (.bool false) ∧ w = w' := by
  have := ris_any m w; rwa [decide_eq_false h] at this

theorem rmoment_any (n s : Int) (w : World) : Calls Tryd.prog 9 #[.int .i64 n, .int .i64 s] w fun e w' => e = .returned (.tuple #[.int .i64 (momV n s), .int .i64 (momE n s)]) ∧ w = w' := by
  unfold momV momE
  by_cases h : nsOk n s
  · rw [if_pos h, if_pos h]
    obtain ⟨⟨a, b⟩, c, d⟩ := h
    rw [Int.mul_comm]
    have c1 : ¬ n < 0 := by omega
    have c2 : ¬ 399 < n := by omega
    have c3 : ¬ s < 0 := by omega
    have c4 : ¬ 95 < s := by omega
    go_enter Tryd.func9, Tryd.ntmps9
    go_wp2
    go_ret2
    exact ⟨rfl, rfl⟩
  · rw [if_neg h, if_neg h]
    by_cases c1 : n < 0
    · clear h
      go_enter Tryd.func9, Tryd.ntmps9
      go_wp2
      go_ret2
      exact ⟨rfl, rfl⟩
    by_cases c2 : 399 < n
    · clear h
      go_enter Tryd.func9, Tryd.ntmps9
      go_wp2
      go_ret2
      exact ⟨rfl, rfl⟩
    by_cases c3 : s < 0
    · clear h
      go_enter Tryd.func9, Tryd.ntmps9
      go_wp2
      go_ret2
      exact ⟨rfl, rfl⟩
    have c4 : 95 < s := by unfold nsOk at h; omega
    clear h
    go_enter Tryd.func9, Tryd.ntmps9
    go_wp2
    go_ret2
    exact ⟨rfl, rfl⟩
theorem rsplit_any (m : Int) (w : World) : Calls Tryd.prog 11 #[.int .i64 m] w fun e w' => e = .returned (.tuple #[.int .i64 (splN m), .int .i64 (splS m), .int .i64 (mE m)]) ∧ w = w' := by
  unfold splN splS mE
  by_cases h : mOk m
  · rw [if_pos h, if_pos h, if_pos h]
    have HI := hid (fun w => ris_yes m w h)
    obtain ⟨h0, h1⟩ := h
    go_enter Tryd.func11, Tryd.ntmps11
    go_wp2_with (go_at_call 22; refine (HI.out _).mono ?_; rintro e w' ⟨rfl, rfl⟩)
    go_ret3
    exact ⟨rfl, rfl⟩
  · rw [if_neg h, if_neg h, if_neg h]
    have HI := hid (fun w => ris_no m w h)
    clear h
    go_enter Tryd.func11, Tryd.ntmps11
    go_wp2_with (go_at_call 22; refine (HI.out _).mono ?_; rintro e w' ⟨rfl, rfl⟩)
    go_ret3
    exact ⟨rfl, rfl⟩
theorem rsid_any (m : Int) (w : World) : Calls Tryd.prog 13 #[.int .i64 m] w fun e w' => e = .returned (.tuple #[.int .i64 (sidV m), .int .i64 (mE m)]) ∧ w = w' := by
  unfold sidV mE
  by_cases h : mOk m
  · rw [if_pos h, if_pos h]
    have HI := hid (fun w => ris_yes m w h)
    obtain ⟨h0, h1⟩ := h
    go_enter Tryd.func13, Tryd.ntmps13
    go_wp2_with (go_at_call 22; refine (HI.out _).mono ?_; rintro e w' ⟨rfl, rfl⟩)
    go_ret2
    exact ⟨rfl, rfl⟩
  · rw [if_neg h, if_neg h]
    have HI := hid (fun w => ris_no m w h)
    clear h
    go_enter Tryd.func13, Tryd.ntmps13
    go_wp2_with (go_at_call 22; refine (HI.out _).mono ?_; rintro e w' ⟨rfl, rfl⟩)
    go_ret2
    exact ⟨rfl, rfl⟩

/-! ### digits -/
theorem digit_at : ∀ d : Nat, d < 10 → ({ data := #[48, 49, 50, 51, 52, 53, 54, 55, 56, 57] } : ByteArray).extract d (d + 1) = ⟨#[UInt8.ofNat (48 + d)]⟩ := by decide
/-- how far 'digits' is: u is what is left, out what is written -/
def DigI (n u : Nat) (i : Nat) (out : List UInt8) : Prop := (i = 0 ∧ u = n ∧ out = []) ∨ (0 < i ∧ ((u = 0 ∧ out = Lib.decDigits n) ∨ (0 < u ∧ Lib.decDigits u ++ out = Lib.decDigits n)))
theorem dig_step (n u i : Nat) (out : List UInt8) (h : DigI n u i out) (hc : i = 0 ∨ 0 < u) : DigI n (u / 10) (i + 1) (UInt8.ofNat (48 + u % 10) :: out) := by
  have hd : Lib.decDigits u ++ out = Lib.decDigits n := by
    rcases h with ⟨_, rfl, rfl⟩ | ⟨hi, (⟨hu, _⟩ | ⟨_, h⟩)⟩
    · simp
    · omega
    · exact h
  refine .inr ⟨by omega, ?_⟩
  by_cases hu : u < 10
  · left
    refine ⟨by omega, ?_⟩
    rw [← hd, Lib.decDigits_one hu, show u % 10 = u by omega]
    rfl
  · right
    refine ⟨by omega, ?_⟩
    rw [← hd]
    conv => rhs; rw [Lib.decDigits, dif_neg hu]
    simp

theorem dig_str (u : Int) (k : Nat) (S : ByteArray) (out : List UInt8) (hu : u = (k : Int)) (hS : S = ⟨out.toArray⟩) :
    ({ data := #[48, 49, 50, 51, 52, 53, 54, 55, 56, 57] } : ByteArray).extract (u % 10).toNat (u % 10 + 1).toNat ++ S = ⟨(UInt8.ofNat (48 + k % 10) :: out).toArray⟩ := by
  have e1 : (u % 10).toNat = k % 10 := by omega
  have e2 : (u % 10 + 1).toNat = k % 10 + 1 := by omega
  rw [e1, e2, digit_at (k % 10) (by omega), hS]
  apply str_ext
  simp

theorem dig_slice (u : Int) (w : World) : (Instr.slice 9 (.string ({ data := #[48, 49, 50, 51, 52, 53, 54, 55, 56, 57] } : ByteArray)) (some (.int .i64 (u % 10))) (some (.int .i64 (u % 10 + 1))) none).run Tryd.prog w = .ok (.string (({ data := #[48, 49, 50, 51, 52, 53, 54, 55, 56, 57] } : ByteArray).extract (u % 10).toNat (u % 10 + 1).toNat)) w := by
  have hten : ({ data := #[48, 49, 50, 51, 52, 53, 54, 55, 56, 57] } : ByteArray).size = 10 := rfl
  generalize ({ data := #[48, 49, 50, 51, 52, 53, 54, 55, 56, 57] } : ByteArray) = D at *
  have h0 : 0 ≤ u % 10 := by omega
  have h1 : u % 10 < 10 := by omega
  generalize u % 10 = d at *
  have h2 : 0 ≤ d + 1 := by omega
  have h3 : d + 1 ≤ 10 := by omega
  unfold Instr.slice Instr.sliceBounds Instr.sliceBound
  simp [go_sem, hten, h0, h2, h3]
  intro h5
  omega

set_option maxHeartbeats 2000000 in
theorem digits_any (n : Nat) (w : World) (hn : n < 1000) : Calls Tryd.prog 24 #[.int .i64 n] w fun e w' => e = .returned (.string ⟨(Lib.itoa (n : Int)).toArray⟩) ∧ Below w.heap.size w w' := by
  rw [Lib.itoa_nonneg]
  go_enter Tryd.func24, Tryd.ntmps24
  go_wp2_with fail
  go_loopw [0, 3, 4] (fun s0 s3 s4 wr => Below w.heap.size w wr ∧ ∃ (u : Int) (S : ByteArray) (i : Nat), s0 = .int .i64 u ∧ s3 = .string S ∧ s4 = .int .i64 i ∧ i ≤ 3 ∧ 0 ≤ u ∧ u < 1000 ∧ S.size ≤ i ∧ Hid ((i = 0 ∨ (i = 1 ∧ u < 100) ∨ (i = 2 ∧ u < 10) ∨ (i = 3 ∧ u = 0)) ∧ ∃ (k : Nat) (out : List UInt8), u = (k : Int) ∧ S = ⟨out.toArray⟩ ∧ DigI n k i out)) (fun _ _ s4 _ => 4 - (intOf s4).toNat)
  case atStart => exact ⟨Below.refl _ _, n, ⟨#[]⟩, 0, rfl, rfl, rfl, by omega, by omega, by omega, by decide, hid ⟨.inl rfl, n, [], rfl, rfl, .inl ⟨rfl, rfl, rfl⟩⟩⟩
  case round =>
    obtain ⟨hB, u, S, i, rfl, rfl, rfl, hi, u0, u1, hsz, HD⟩ := hrel
    by_cases hc : i = 0 ∨ 0 < u
    · have HS := hid (show ∃ S' : ByteArray, ({ data := #[48, 49, 50, 51, 52, 53, 54, 55, 56, 57] } : ByteArray).extract (u % 10).toNat (u % 10 + 1).toNat ++ S = S' ∧ S'.size ≤ i + 1 ∧ ((i + 1 = 0 ∨ (i + 1 = 1 ∧ u / 10 < 100) ∨ (i + 1 = 2 ∧ u / 10 < 10) ∨ (i + 1 = 3 ∧ u / 10 = 0)) ∧ ∃ (k : Nat) (out : List UInt8), u / 10 = (k : Int) ∧ S' = ⟨out.toArray⟩ ∧ DigI n k (i + 1) out) by
        obtain ⟨h1, k, out, e1, e2, h2⟩ := HD.out
        refine ⟨_, rfl, ?_, ?_, k / 10, UInt8.ofNat (48 + k % 10) :: out, by omega, dig_str u k S out e1 e2, dig_step n k i out h2 (by omega)⟩
        · rw [dig_str u k S out e1 e2]
          have : S.size = out.length := by rw [e2]; show out.toArray.size = _; simp
          show (UInt8.ofNat (48 + k % 10) :: out).toArray.size ≤ i + 1
          simp; omega
        · omega)
      have hi3 : i < 3 := by have := HD.out.1; omega
      have hq : (({ data := #[48, 49, 50, 51, 52, 53, 54, 55, 56, 57] } : ByteArray).extract (u % 10).toNat (u % 10 + 1).toNat).size ≤ 1 := by
        obtain ⟨h1, k, out, e1, e2, h2⟩ := HD.out
        have e3 : (u % 10).toNat = k % 10 := by omega
        have e4 : (u % 10 + 1).toNat = k % 10 + 1 := by omega
        rw [e3, e4, digit_at (k % 10) (by omega)]; exact Nat.le_refl 1
      have hten : ({ data := #[48, 49, 50, 51, 52, 53, 54, 55, 56, 57] } : ByteArray).size = 10 := rfl
      have hsl := dig_slice u
      rcases Nat.eq_zero_or_pos i with h0 | h0
      · subst h0
        clear hc HD
        go_wp2_with fail
        obtain ⟨S', hs1, hs2, hs3⟩ := HS.out
        exact ⟨⟨hB, u / 10, S', 1, rfl, by rw [hs1], rfl, by omega, by omega, by omega, hs2, hid hs3⟩, by simp [intOf]⟩
      · have hI : ¬ (i : Int) = 0 := by omega
        have hU : 0 < u := by omega
        have hi6 : (i : Int) < 6 := by omega
        clear hc HD
        go_wp2_with fail
        obtain ⟨S', hs1, hs2, hs3⟩ := HS.out
        go_roundw
        case rel => exact ⟨hB, u / 10, S', i + 1, rfl, by rw [hs1], by go_num, by omega, by omega, by omega, hs2, hid hs3⟩
        case measure => simp [intOf] <;> omega
    · have hI : ¬ (i : Int) = 0 := by omega
      have hU : ¬ 0 < u := by omega
      have hE : S = ⟨(Lib.decDigits n).toArray⟩ := by
        obtain ⟨h1, k, out, e1, e2, h2⟩ := HD.out
        rcases h2 with ⟨h2, _⟩ | ⟨_, (⟨_, rfl⟩ | ⟨h2, _⟩)⟩
        · omega
        · exact e2
        · omega
      have HE := hid hE
      clear hE
      go_wp2_with fail
      go_ret
      rw [HE.out]
      exact ⟨rfl, hB⟩

theorem rtext_any (m : Int) (w : World) : Calls Tryd.prog 15 #[.int .i64 m] w fun e w' => e = .returned (.tuple #[.string ⟨(textV m).toArray⟩, .int .i64 (mE m)]) ∧ Below w.heap.size w w' := by
  unfold textV mE
  by_cases h : mOk m
  · rw [if_pos h, if_pos h]
    have HI := hid (fun w => ris_yes m w h)
    obtain ⟨h0, h1⟩ := h
    have i1 := fun w => digits_any (m / 96).toNat w (by omega)
    have i2 := fun w => digits_any (m % 96).toNat w (by omega)
    rw [show (((m / 96).toNat : Nat) : Int) = m / 96 by omega] at i1
    rw [show (((m % 96).toNat : Nat) : Int) = m % 96 by omega] at i2
    have z1 := itoa_size (m / 96) ⟨by omega, by omega⟩
    have z2 := itoa_size (m % 96) ⟨by omega, by omega⟩
    obtain ⟨S, hS⟩ : ∃ S : ByteArray, ⟨(Lib.itoa (m / 96)).toArray⟩ = S := ⟨_, rfl⟩
    obtain ⟨T, hT⟩ : ∃ S : ByteArray, ⟨(Lib.itoa (m % 96)).toArray⟩ = S := ⟨_, rfl⟩
    have hx : (⟨(textF m).toArray⟩ : ByteArray) = S ++ ⟨#[46]⟩ ++ T := by
      subst hS hT
      apply str_ext
      simp [textF]
    rw [hS] at i1 z1
    rw [hT] at i2 z2
    rw [hx]
    clear hx hS hT
    have I1 := hid i1
    have I2 := hid i2
    clear i1 i2
    go_enter Tryd.func15, Tryd.ntmps15
    go_wp2_with (go_at_call 22; refine (HI.out _).mono ?_; rintro e w' ⟨rfl, rfl⟩)
    refine (I1.out _).mono ?_
    rintro e w1 ⟨rfl, hB1⟩
    go_wp2_with fail
    refine (I2.out _).mono ?_
    rintro e w2 ⟨rfl, hB2⟩
    go_wp2_with fail
    go_ret2
    exact ⟨rfl, bthen hB1 hB2⟩
  · rw [if_neg h, if_neg h]
    have HI := hid (fun w => ris_no m w h)
    clear h
    go_enter Tryd.func15, Tryd.ntmps15
    go_wp2_with (go_at_call 22; refine (HI.out _).mono ?_; rintro e w' ⟨rfl, rfl⟩)
    go_ret2
    exact ⟨rfl, Below.refl _ _⟩

set_option maxHeartbeats 2000000 in
theorem rnext_any (m a : Int) (w : World) : Calls Tryd.prog 19 #[.int .i64 m, .int .i64 a] w fun e w' => ∃ v er, e = .returned (.tuple #[.int .i64 v, .int .i64 er]) ∧ NextA m a v er ∧ w = w' := by
  by_cases hm : mOk m
  · have HI := hid (fun w => ris_yes m w hm)
    by_cases ha : 0 ≤ a ∧ a < 5760
    · have HOK := hid (show maOk m a from ⟨hm, ha⟩)
      have HSI := hid (fun x w (h : 0 ≤ x ∧ x ≤ 38399) => show Calls Tryd.prog 13 #[.int .i64 x] w fun e w' => e = .returned (.tuple #[.int .i64 (sid x), .int .i64 0]) ∧ w = w' by
        have := rsid_any x w
        unfold sidV mE at this
        rwa [if_pos (show mOk x from h), if_pos (show mOk x from h)] at this)
      obtain ⟨m0, m1⟩ := hm
      obtain ⟨a0, a1⟩ := ha
      have c1 : ¬ a < 0 := by omega
      have c2 : ¬ 5759 < a := by omega
      go_enter Tryd.func19, Tryd.ntmps19
      go_wp2_with (go_at_call 22; refine (HI.out _).mono ?_; rintro e w' ⟨rfl, rfl⟩)
      go_loopw [6] (fun s7 wr => wr = w ∧ ∃ j : Nat, s7 = .int .i64 (m + (j : Int)) ∧ m + (j : Int) ≤ 38400 ∧ Hid (∀ i : Nat, i < j → reachB (m + (i : Int)) a = false)) (fun s7 _ => (38400 - intOf s7).toNat)
      case atStart => exact ⟨rfl, 0, by simp, by omega, hid (by intro i hi; omega)⟩
      case round =>
        obtain ⟨rfl, j, rfl, hj, HN⟩ := hrel
        by_cases hlt : m + (j : Int) ≤ 38399
        · have H1 := hid (fun w => HSI.out (m + (j : Int)) w ⟨by omega, hlt⟩)
          have hrb : reachB (m + (j : Int)) a = decide ((sid (m + (j : Int)) - a + 5760) % 5760 < 60) := by
            unfold reachB; rw [show sid (m + (j : Int)) + 5760 - a = sid (m + (j : Int)) - a + 5760 by omega]
          obtain ⟨s0, s1⟩ := sid_bd (m + (j : Int))
          generalize sid (m + (j : Int)) = s at *
          have HRB := hid hrb
          clear hrb
          by_cases hr : (s - a + 5760) % 5760 < 60
          · go_wp2_with fail
            refine (H1.out _).mono ?_
            rintro e w' ⟨rfl, rfl⟩
            go_wp2_with fail
            go_ret2
            exact ⟨_, _, rfl, .inl ⟨HOK.out, .inl ⟨rfl, j, rfl, hlt, by rw [HRB.out]; simpa using hr, HN.out⟩⟩, rfl⟩
          · go_wp2_with fail
            refine (H1.out _).mono ?_
            rintro e w' ⟨rfl, rfl⟩
            go_wp2_with fail
            go_roundw
            case rel =>
              refine ⟨(by first | trivial | rfl), j + 1, by go_num, by omega, hid fun i hi => ?_⟩
              by_cases hij : i = j
              · rw [hij, HRB.out]; simpa using hr
              · exact HN.out i (by omega)
            case measure => simp only [intOf]; omega
        · go_wp2_with fail
          go_ret2
          exact ⟨_, _, rfl, .inl ⟨HOK.out, .inr ⟨rfl, rfl, fun i hi => HN.out i (by omega)⟩⟩, rfl⟩
    · have HOK := hid (show ¬ maOk m a from fun h => ha h.2)
      by_cases c1 : a < 0
      · clear ha hm
        go_enter Tryd.func19, Tryd.ntmps19
        go_wp2_with (go_at_call 22; refine (HI.out _).mono ?_; rintro e w' ⟨rfl, rfl⟩)
        go_ret2
        exact ⟨_, _, rfl, .inr ⟨HOK.out, rfl, rfl⟩, rfl⟩
      · have c2 : 5759 < a := by omega
        clear ha hm
        go_enter Tryd.func19, Tryd.ntmps19
        go_wp2_with (go_at_call 22; refine (HI.out _).mono ?_; rintro e w' ⟨rfl, rfl⟩)
        go_ret2
        exact ⟨_, _, rfl, .inr ⟨HOK.out, rfl, rfl⟩, rfl⟩
  · have HOK := hid (show ¬ maOk m a from fun h => hm h.1)
    have HI := hid (fun w => ris_no m w hm)
    clear hm
    go_enter Tryd.func19, Tryd.ntmps19
    go_wp2_with (go_at_call 22; refine (HI.out _).mono ?_; rintro e w' ⟨rfl, rfl⟩)
    go_ret2
    exact ⟨_, _, rfl, .inr ⟨HOK.out, rfl, rfl⟩, rfl⟩
end Go.Proofs.YtlikkplipofghaaDoor
