/- calendar: the reference's Parse, walked -/
import Derived.Test.YtlikkplipofghaaDoorCalRef2
namespace Go.Proofs.YtlikkplipofghaaDoor
open Go.RowKit

def rpI (l : List UInt8) (i : Nat) (n s d : Int) : Prop := rpFold (l.take i) (0, 0, 0) = some (n, s, d) ∧ (0 ≤ n ∧ n < ((10 ^ i : Nat) : Int)) ∧ (0 ≤ s ∧ s < ((10 ^ i : Nat) : Int)) ∧ 0 ≤ d ∧ d ≤ i
theorem rpI_bd {l : List UInt8} {i : Nat} {n s d : Int} (h : rpI l i n s d) (hi : i < 8) : (0 ≤ n ∧ n < 10000000) ∧ (0 ≤ s ∧ s < 10000000) ∧ 0 ≤ d ∧ d ≤ 8 := by
  obtain ⟨_, h1, h2, h3⟩ := h
  have : 10 ^ i ≤ 10 ^ 7 := Nat.pow_le_pow_right (by omega) (by omega)
  omega
theorem rpI_step {l : List UInt8} {i : Nat} {n s d n' s' d' : Int} (h : rpI l i n s d) (c : UInt8) (hc : l[i]? = some c) (hs : rpStep (n, s, d) c = some (n', s', d')) : rpI l (i + 1) n' s' d' := by
  obtain ⟨h0, h1, h2, h3⟩ := h
  refine ⟨by rw [rpFold_take l i c _ hc, h0]; exact hs, ?_⟩
  have e : ((10 ^ (i + 1) : Nat) : Int) = 10 * ((10 ^ i : Nat) : Int) := by rw [Nat.pow_succ]; push_cast; omega
  rw [e]
  generalize ((10 ^ i : Nat) : Int) = p at *
  unfold rpStep at hs
  dsimp only at hs
  have hc2 := c.toNat_lt
  split at hs
  · cases hs; omega
  · split at hs
    · cases hs
    · split at hs
      · cases hs; omega
      · cases hs; omega

theorem parseOk_text {l : List UInt8} (h : parseOk l) : ∃ m, (0 ≤ m ∧ m ≤ 38399) ∧ textF m = l := by
  obtain ⟨h1, h2, h3⟩ := text_parse l h
  exact ⟨_, ⟨h2, h3⟩, h1⟩
theorem rp_bad {l : List UInt8} {i : Nat} {n s d : Int} (h : rpI l i n s d) (c : UInt8) (hc : l[i]? = some c) (hs : rpStep (n, s, d) c = none) : ¬ parseOk l := by
  intro hp
  obtain ⟨m, ⟨m0, m1⟩, rfl⟩ := parseOk_text hp
  have h1 := rp_text m m0 m1
  rw [← List.take_append_drop (i + 1) (textF m), rpFold_append, rpFold_take _ i c _ hc, h.1] at h1
  simp only [Option.bind_some, hs] at h1
  cases h1
theorem rp_end {l : List UInt8} {i : Nat} {n s d : Int} (h : rpI l i n s d) (hi : i = 8 ∨ i = l.length) (hp : parseOk l) : nsOk n s ∧ textF (n * 96 + s) = l := by
  obtain ⟨m, ⟨m0, m1⟩, rfl⟩ := parseOk_text hp
  have h7 := text_short m m0 m1
  have h1 := rp_text m m0 m1
  have h2 := h.1
  rw [List.take_of_length_le (by omega), h1] at h2
  simp only [Option.some.injEq, Prod.mk.injEq] at h2
  obtain ⟨rfl, rfl, _⟩ := h2
  exact ⟨⟨by omega, by omega⟩, by rw [show m / 96 * 96 + m % 96 = m by omega]⟩

theorem nsOk_m {n s : Int} (h : nsOk n s) : mOk (n * 96 + s) := by obtain ⟨⟨a, b⟩, c, d⟩ := h; exact ⟨by omega, by omega⟩
theorem str_of {a l : List UInt8} {t : ByteArray} (h : a = l) (ht : t.data.toList = l) : (⟨a.toArray⟩ : ByteArray) = t := by
  apply str_ext; rw [ht, ← h]
theorem str_neq {a l : List UInt8} {t : ByteArray} (h : ¬ a = l) (ht : t.data.toList = l) : ¬ (⟨a.toArray⟩ : ByteArray) = t := by
  intro e; subst e; exact h ht

set_option maxHeartbeats 4000000 in
theorem rparse_any (t : ByteArray) (w : World) (hs : t.size ≤ 100000) : Calls Tryd.prog 17 #[.string t] w fun e w' => e = .returned (.tuple #[.int .i64 (parseV t.data.toList), .int .i64 (parseE t.data.toList)]) ∧ Below w.heap.size w w' := by
  obtain ⟨l, hl⟩ : ∃ l, t.data.toList = l := ⟨_, rfl⟩
  have hln : l.length = t.size := by rw [← hl]; exact Array.length_toList
  have HLN := hid hln
  have HL := hid hl
  rw [hl]
  clear hl hln
  have HNO := hid (fun (h : ¬ parseOk l) => show parseV l = 0 ∧ parseE l = 5 from ⟨if_neg h, if_neg h⟩)
  generalize hV : parseV l = V at *
  generalize hE : parseE l = E at *
  have HV := hid hV
  have HE := hid hE
  clear hV hE
  go_enter Tryd.func17, Tryd.ntmps17
  go_wp2_with fail
  go_loopw [4, 5, 6, 7] (fun s4 s5 s6 s7 wr => wr = w ∧ ∃ (i : Nat) (n s d : Int), s4 = .int .i64 n ∧ s5 = .int .i64 s ∧ s6 = .int .i64 d ∧ s7 = .int .i64 i ∧ i ≤ 8 ∧ i ≤ t.size ∧ Hid (rpI l i n s d)) (fun _ _ _ s7 _ => 8 - (intOf s7).toNat)
  case atStart => exact ⟨rfl, 0, 0, 0, 0, rfl, rfl, rfl, rfl, by omega, by omega, hid ⟨rfl, by simp, by simp, by simp⟩⟩
  case round =>
    obtain ⟨rfl, i, n, s, d, rfl, rfl, rfl, rfl, hi, hit, HI⟩ := hrel
    by_cases hlt : i < t.size
    · by_cases hlt8 : i < 8
      · have hI1 : (i : Int) < (t.size : Int) := by omega
        have hI2 : (i : Int) < 8 := by omega
        obtain ⟨⟨n0, n1⟩, ⟨s0, s1⟩, d0, d1⟩ := rpI_bd HI.out hlt8
        obtain ⟨c, hc⟩ : ∃ c, l[i]? = some c := ⟨_, List.getElem?_eq_getElem (by have := HLN.out; omega)⟩
        have hti : t[i] = c := by
          have h1 := HL.out
          subst h1
          have := (List.getElem?_eq_some_iff.1 hc).2
          rw [← this]
          simp [ByteArray.getElem_eq_getElem_data]
        obtain ⟨x, hcx⟩ : ∃ x : Int, ((c.toNat : Nat) : Int) = x := ⟨_, rfl⟩
        have hx : ((t[i].toNat : Nat) : Int) = x := by rw [hti]; exact hcx
        have x0 : 0 ≤ x ∧ x < 256 := by have := c.toNat_lt; omega
        obtain ⟨x0, x1⟩ := x0
        clear hti
        have step : ∀ n' s' d' : Int, rpStep (n, s, d) c = some (n', s', d') → rpI l (i + 1) n' s' d' := fun n' s' d' h => rpI_step HI.out c hc h
        have bad : rpStep (n, s, d) c = none → V = 0 ∧ E = 5 := fun h => HNO.out (rp_bad HI.out c hc h)
        by_cases q0 : x = 46
        · subst q0
          have hc46 : c = 46 := UInt8.toNat_inj.1 (by show c.toNat = 46; omega)
          have HST := hid (step n s (d + 1) (by unfold rpStep; rw [if_pos hc46]))
          clear hcx hc step bad hc46
          go_wp2_with fail
          go_roundw
          case rel => exact ⟨(by first | trivial | rfl), i + 1, n, s, d + 1, rfl, rfl, rfl, by go_num, by omega, by omega, HST⟩
          case measure => simp [intOf] <;> omega
        · have q1 : (x == 46) = false := by simpa using q0
          have hc46 : ¬ c = 46 := fun e => q0 (by rw [← hcx, e]; rfl)
          by_cases q2 : x < 48
          · obtain ⟨rfl, rfl⟩ := bad (by unfold rpStep; rw [if_neg hc46, if_pos (.inl (by omega))])
            clear hcx hc step bad hc46
            go_wp2_with fail
            go_ret2
            exact ⟨rfl, Below.refl _ _⟩
          by_cases q3 : 57 < x
          · obtain ⟨rfl, rfl⟩ := bad (by unfold rpStep; rw [if_neg hc46, if_pos (.inr (by omega))])
            clear hcx hc step bad hc46
            go_wp2_with fail
            go_ret2
            exact ⟨rfl, Below.refl _ _⟩
          by_cases q4 : d = 0
          · subst q4
            have HST := hid (step (10 * n + (x - 48)) s 0 (by unfold rpStep; rw [if_neg hc46, if_neg (by omega), if_pos rfl, hcx]))
            clear hcx hc step bad hc46
            go_wp2_with fail
            go_roundw
            case rel => exact ⟨(by first | trivial | rfl), i + 1, _, _, _, rfl, rfl, rfl, by go_num, by omega, by omega, HST⟩
            case measure => simp [intOf] <;> omega
          · have q5 : (d == 0) = false := by simpa using q4
            have HST := hid (step n (10 * s + (x - 48)) d (by unfold rpStep; rw [if_neg hc46, if_neg (by omega), if_neg q4, hcx]))
            clear hcx hc step bad hc46
            go_wp2_with fail
            go_roundw
            case rel => exact ⟨(by first | trivial | rfl), i + 1, _, _, _, rfl, rfl, rfl, by go_num, by omega, by omega, HST⟩
            case measure => simp [intOf] <;> omega
      · have hI2 : ¬ (i : Int) < 8 := by omega
        have hI1 : (i : Int) < (t.size : Int) := by omega
        have HEN := hid (fun hp => rp_end HI.out (.inl (by omega)) hp)
        by_cases hns : nsOk n s  ;(have hm := fun w => rmoment_any n s w; rw [show momV n s = n * 96 + s from if_pos hns, show momE n s = 0 from if_pos hns] at hm; have HM := hid hm; clear hm; have ht := fun w => rtext_any (n * 96 + s) w; rw [show textV (n * 96 + s) = textF (n * 96 + s) from if_pos (nsOk_m hns), show mE (n * 96 + s) = 0 from if_pos (nsOk_m hns)] at ht; by_cases heq : textF (n * 96 + s) = l; (obtain ⟨hv1, hv2⟩ := parse_text (n * 96 + s) (nsOk_m hns).1 (nsOk_m hns).2; rw [heq, HV.out] at hv1; rw [heq, HE.out] at hv2; subst hv1 hv2; rw [str_of heq HL.out] at ht; have HT := hid ht; clear ht hns heq; go_wp2_with fail; refine (HM.out _).mono ?_; rintro e w' ⟨rfl, rfl⟩; go_wp2_with fail; refine (HT.out _).mono ?_; rintro e w2 ⟨rfl, hB2⟩; go_wp2_with fail; go_ret2; exact ⟨rfl, hB2⟩); (obtain ⟨rfl, rfl⟩ := HNO.out (fun hp => heq (HEN.out hp).2); have hne := str_ne (str_neq heq HL.out); generalize (⟨(textF (n * 96 + s)).toArray⟩ : ByteArray) = O at *; have HT := hid ht; clear ht hns heq; go_wp2_with fail; refine (HM.out _).mono ?_; rintro e w' ⟨rfl, rfl⟩; go_wp2_with fail; refine (HT.out _).mono ?_; rintro e w2 ⟨rfl, hB2⟩; go_wp2_with fail; go_ret2; exact ⟨rfl, hB2⟩))  ;(have hm := fun w => rmoment_any n s w; rw [show momV n s = 0 from if_neg hns, show momE n s = 1 from if_neg hns] at hm; have HM := hid hm; clear hm; obtain ⟨rfl, rfl⟩ := HNO.out (fun hp => hns (HEN.out hp).1); clear hns; go_wp2_with fail; refine (HM.out _).mono ?_; rintro e w' ⟨rfl, rfl⟩; go_wp2_with fail; go_ret2; exact ⟨rfl, Below.refl _ _⟩)
    · have hI1 : ¬ (i : Int) < (t.size : Int) := by omega
      have HEN := hid (fun hp => rp_end HI.out (.inr (by have := HLN.out; omega)) hp)
      by_cases hns : nsOk n s  ;(have hm := fun w => rmoment_any n s w; rw [show momV n s = n * 96 + s from if_pos hns, show momE n s = 0 from if_pos hns] at hm; have HM := hid hm; clear hm; have ht := fun w => rtext_any (n * 96 + s) w; rw [show textV (n * 96 + s) = textF (n * 96 + s) from if_pos (nsOk_m hns), show mE (n * 96 + s) = 0 from if_pos (nsOk_m hns)] at ht; by_cases heq : textF (n * 96 + s) = l; (obtain ⟨hv1, hv2⟩ := parse_text (n * 96 + s) (nsOk_m hns).1 (nsOk_m hns).2; rw [heq, HV.out] at hv1; rw [heq, HE.out] at hv2; subst hv1 hv2; rw [str_of heq HL.out] at ht; have HT := hid ht; clear ht hns heq; go_wp2_with fail; refine (HM.out _).mono ?_; rintro e w' ⟨rfl, rfl⟩; go_wp2_with fail; refine (HT.out _).mono ?_; rintro e w2 ⟨rfl, hB2⟩; go_wp2_with fail; go_ret2; exact ⟨rfl, hB2⟩); (obtain ⟨rfl, rfl⟩ := HNO.out (fun hp => heq (HEN.out hp).2); have hne := str_ne (str_neq heq HL.out); generalize (⟨(textF (n * 96 + s)).toArray⟩ : ByteArray) = O at *; have HT := hid ht; clear ht hns heq; go_wp2_with fail; refine (HM.out _).mono ?_; rintro e w' ⟨rfl, rfl⟩; go_wp2_with fail; refine (HT.out _).mono ?_; rintro e w2 ⟨rfl, hB2⟩; go_wp2_with fail; go_ret2; exact ⟨rfl, hB2⟩))  ;(have hm := fun w => rmoment_any n s w; rw [show momV n s = 0 from if_neg hns, show momE n s = 1 from if_neg hns] at hm; have HM := hid hm; clear hm; obtain ⟨rfl, rfl⟩ := HNO.out (fun hp => hns (HEN.out hp).1); clear hns; go_wp2_with fail; refine (HM.out _).mono ?_; rintro e w' ⟨rfl, rfl⟩; go_wp2_with fail; go_ret2; exact ⟨rfl, Below.refl _ _⟩)
end Go.Proofs.YtlikkplipofghaaDoor
