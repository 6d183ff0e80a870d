/- airmass: the statements MatchesReference, Hours, Angles, Falls -/
import Derived.Test.YtgelhndjdngdnaaAirHead
namespace Go.Proofs.Ytgelhndjdngdnaa
open Go.RowKit


set_option maxHeartbeats 4000000 in
set_option maxRecDepth 100000 in
theorem matches_walk (c m s t h n l : Int) (w : World) : Calls Try.prog 3 #[.int .i64 c, .int .i64 m, .int .i64 s, .int .i64 t, .int .i64 h, .int .i64 n, .int .i64 l] w fun e w' => e = .returned (.bool true) ∧ Below w.heap.size w w' := by
  obtain ⟨hv, he1⟩ : ∃ hv, hourV c m = hv := ⟨_, rfl⟩
  obtain ⟨he, he2⟩ : ∃ he, hourE c m = he := ⟨_, rfl⟩
  obtain ⟨gv, ge1⟩ : ∃ hv, heightV s t m = hv := ⟨_, rfl⟩
  obtain ⟨ge, ge2⟩ : ∃ he, heightE s t m = he := ⟨_, rfl⟩
  obtain ⟨av, ae1⟩ : ∃ hv, airV h = hv := ⟨_, rfl⟩
  obtain ⟨ae, ae2⟩ : ∃ he, airE h = he := ⟨_, rfl⟩
  obtain ⟨we, we2⟩ : ∃ he, winE s t n = he := ⟨_, rfl⟩
  have h1 := fun w => hour_any c m w
  have h2 := fun w => rhour_all c m w
  have h3 := fun w => height_any s t m w
  have h4 := fun w => rheight_all s t m w
  have h5 := fun w => air_any h w
  have h6 := fun w => rair_all h w
  have h7 := fun w => windows_any s t n l w
  have h8 := fun w => rwindows_any s t n l w
  rw [he1, he2] at h1 h2
  rw [ge1, ge2] at h3 h4
  rw [ae1, ae2] at h5 h6
  rw [we2] at h7 h8
  have HL := hid (wins_len s t n l)
  clear he1 he2 ge1 ge2 ae1 ae2 we2
  generalize wins s t n l = L at *
  have H1 := hid h1
  have H2 := hid h2
  have H3 := hid h3
  have H4 := hid h4
  have H5 := hid h5
  have H6 := hid h6
  have H7 := hid h7
  have H8 := hid h8
  clear h1 h2 h3 h4 h5 h6 h7 h8
  go_enter Try.func3, Try.ntmps3
  go_wp2_with fail  ;refine (head_any _).mono ?_  ;rintro e w1 ⟨rfl, hB1⟩
  go_wp2_with (first | (go_at_call 11; refine (H1.out _).mono ?_; rintro e w' ⟨rfl, rfl⟩) | (go_at_call 12; refine (H2.out _).mono ?_; rintro e w' ⟨rfl, rfl⟩) | (go_at_call 13; refine (H3.out _).mono ?_; rintro e w' ⟨rfl, rfl⟩) | (go_at_call 14; refine (H4.out _).mono ?_; rintro e w' ⟨rfl, rfl⟩) | (go_at_call 15; refine (H5.out _).mono ?_; rintro e w' ⟨rfl, rfl⟩) | (go_at_call 16; refine (H6.out _).mono ?_; rintro e w' ⟨rfl, rfl⟩))
  refine (H7.out _).mono ?_
  rintro e w2 ⟨x, rfl, hx, hB2⟩
  go_wp2_with fail
  refine (H8.out _).mono ?_
  rintro e w3 ⟨y, rfl, hy, hB3⟩
  have hx3 := hx.below hB3
  go_wp2_with fail
  refine (rspans_eq _ _ _ _ hx3 hy (by have := HL.out; omega)).mono ?_
  rintro e w4 ⟨rfl, hB4⟩
  go_wp2_with fail
  go_ret
  exact ⟨ret_bool (by first | rfl | simp), bthen hB1 (bthen hB2 (bthen hB3 hB4))⟩


theorem air_bd (h : Int) (h0 : 100 ≤ h) (h1 : h ≤ 900) : 1000 ≤ 900000 / h ∧ 900000 / h ≤ 9000 := by
  constructor
  · exact (Int.le_ediv_iff_mul_le (by omega)).2 (by omega)
  · have := Int.ediv_mul_le 900000 (show h ≠ 0 by omega)
    rcases Int.lt_or_le 9000 (900000 / h) with h2 | h2
    · exfalso
      have h3 : 9001 * 100 ≤ 900000 / h * h := Int.mul_le_mul (by omega) h0 (by omega) (by omega)
      omega
    · exact h2
theorem air_falls (a b : Int) (h0 : 100 ≤ a) (h1 : a ≤ b) : 900000 / b ≤ 900000 / a := by
  refine (Int.le_ediv_iff_mul_le (by omega)).2 ?_
  have h2 := Int.ediv_mul_le 900000 (show b ≠ 0 by omega)
  have h3 : 0 ≤ 900000 / b := Int.ediv_nonneg (by omega) (by omega)
  have h4 : 900000 / b * a ≤ 900000 / b * b := Int.mul_le_mul_of_nonneg_left h1 h3
  omega


/-- what the two calls find, in the order least, greatest -/
def AirS (lo hi : Int) (x e y f : Int) : Prop := (∀ w, Calls Try.prog 15 #[.int .i64 lo] w fun e' w' => e' = .returned (.tuple #[.int .i64 x, .int .i64 e]) ∧ w = w') ∧
  (∀ w, Calls Try.prog 15 #[.int .i64 hi] w fun e w' => e = .returned (.tuple #[.int .i64 y, .int .i64 f]) ∧ w = w')

set_option maxHeartbeats 2000000 in
theorem falls_to (a b lo hi : Int) (w : World) (hm : (a < b ∧ lo = a ∧ hi = b) ∨ (b < a ∧ lo = b ∧ hi = a) ∨ (a = b ∧ lo = a ∧ hi = a)) : Calls Try.prog 7 #[.int .i64 a, .int .i64 b] w fun e w' => e = .returned (.bool true) ∧ Below w.heap.size w w' := by
  obtain ⟨x, hx⟩ : ∃ x, airV lo = x := ⟨_, rfl⟩
  obtain ⟨e, he⟩ : ∃ x, airE lo = x := ⟨_, rfl⟩
  obtain ⟨y, hy⟩ : ∃ x, airV hi = x := ⟨_, rfl⟩
  obtain ⟨f, hf⟩ : ∃ x, airE hi = x := ⟨_, rfl⟩
  have h1 := fun w => air_any lo w
  have h2 := fun w => air_any hi w
  rw [hx, he] at h1
  rw [hy, hf] at h2
  have G := hid h1
  have F := hid h2
  clear h1 h2
  have hle : lo ≤ hi := by omega
  rcases hm with ⟨hab, rfl, rfl⟩ | ⟨hab, rfl, rfl⟩ | ⟨rfl, rfl, rfl⟩
  · have m1 : ¬ hi ≤ lo := by omega
    by_cases u1 : 900 < hi
    · have e1 : ¬ hi ≤ 900 := by omega
      have e2 : 100 ≤ hi := by omega
      obtain rfl : f = 1 := by rw [← hf]; unfold airE; rw [if_pos u1]
      clear hx hy hf he
      by_cases z : e = 0
      · subst z
        (go_enter Try.func7, Try.ntmps7  ;go_wp2_with fail  ;refine (head_any _).mono ?_  ;rintro e w1 ⟨rfl, hB1⟩  ;go_wp2_with fail  ;refine (G.out _).mono ?_  ;rintro e w' ⟨rfl, rfl⟩  ;go_wp2_with fail  ;refine (F.out _).mono ?_  ;rintro e w' ⟨rfl, rfl⟩  ;go_wp2_with fail  ;go_ret  ;exact ⟨ret_bool (by first | rfl | (simp [*])), hB1⟩)
      · (go_enter Try.func7, Try.ntmps7  ;go_wp2_with fail  ;refine (head_any _).mono ?_  ;rintro e w1 ⟨rfl, hB1⟩  ;go_wp2_with fail  ;refine (G.out _).mono ?_  ;rintro e w' ⟨rfl, rfl⟩  ;go_wp2_with fail  ;refine (F.out _).mono ?_  ;rintro e w' ⟨rfl, rfl⟩  ;go_wp2_with fail  ;go_ret  ;exact ⟨ret_bool (by first | rfl | (simp [*])), hB1⟩)
    · by_cases u2 : hi < 100
      · have e1 : hi ≤ 900 := by omega
        have e2 : ¬ 100 ≤ hi := by omega
        obtain rfl : f = 19 := by rw [← hf]; unfold airE; rw [if_neg u1, if_pos u2]
        obtain rfl : e = 19 := by rw [← he]; unfold airE; rw [if_neg (by omega), if_pos (by omega)]
        clear hx hy hf he
        (go_enter Try.func7, Try.ntmps7  ;go_wp2_with fail  ;refine (head_any _).mono ?_  ;rintro e w1 ⟨rfl, hB1⟩  ;go_wp2_with fail  ;refine (G.out _).mono ?_  ;rintro e w' ⟨rfl, rfl⟩  ;go_wp2_with fail  ;refine (F.out _).mono ?_  ;rintro e w' ⟨rfl, rfl⟩  ;go_wp2_with fail  ;go_ret  ;exact ⟨ret_bool (by first | rfl | (simp [*])), hB1⟩)
      · have e1 : hi ≤ 900 := by omega
        have e2 : 100 ≤ hi := by omega
        obtain rfl : f = 0 := by rw [← hf]; unfold airE; rw [if_neg u1, if_neg u2]
        obtain ⟨y1, y2⟩ : 1000 ≤ y ∧ y ≤ 9000 := by rw [← hy]; unfold airV; rw [if_neg u1, if_neg u2]; exact air_bd hi e2 e1
        have y3 : ¬ y < 1000 := by omega
        have y4 : ¬ 9000 < y := by omega
        by_cases u3 : lo < 100
        · obtain rfl : e = 19 := by rw [← he]; unfold airE; rw [if_neg (by omega), if_pos (by omega)]
          clear hx hy hf he
          (go_enter Try.func7, Try.ntmps7  ;go_wp2_with fail  ;refine (head_any _).mono ?_  ;rintro e w1 ⟨rfl, hB1⟩  ;go_wp2_with fail  ;refine (G.out _).mono ?_  ;rintro e w' ⟨rfl, rfl⟩  ;go_wp2_with fail  ;refine (F.out _).mono ?_  ;rintro e w' ⟨rfl, rfl⟩  ;go_wp2_with fail  ;go_ret  ;exact ⟨ret_bool (by first | rfl | (simp [*])), hB1⟩)
        · obtain rfl : e = 0 := by rw [← he]; unfold airE; rw [if_neg (by omega), if_neg (by omega)]
          have y5 : y ≤ x := by rw [← hy, ← hx]; unfold airV; rw [if_neg u1, if_neg u2, if_neg (by omega), if_neg u3]; exact air_falls lo hi (by omega) hle
          clear hx hy hf he
          (go_enter Try.func7, Try.ntmps7  ;go_wp2_with fail  ;refine (head_any _).mono ?_  ;rintro e w1 ⟨rfl, hB1⟩  ;go_wp2_with fail  ;refine (G.out _).mono ?_  ;rintro e w' ⟨rfl, rfl⟩  ;go_wp2_with fail  ;refine (F.out _).mono ?_  ;rintro e w' ⟨rfl, rfl⟩  ;go_wp2_with fail  ;go_ret  ;exact ⟨ret_bool (by first | rfl | (simp [*])), hB1⟩)
  · have m1 : ¬ hi ≤ lo := by omega
    by_cases u1 : 900 < hi
    · have e1 : ¬ hi ≤ 900 := by omega
      have e2 : 100 ≤ hi := by omega
      obtain rfl : f = 1 := by rw [← hf]; unfold airE; rw [if_pos u1]
      clear hx hy hf he
      by_cases z : e = 0
      · subst z
        (go_enter Try.func7, Try.ntmps7  ;go_wp2_with fail  ;refine (head_any _).mono ?_  ;rintro e w1 ⟨rfl, hB1⟩  ;go_wp2_with fail  ;refine (G.out _).mono ?_  ;rintro e w' ⟨rfl, rfl⟩  ;go_wp2_with fail  ;refine (F.out _).mono ?_  ;rintro e w' ⟨rfl, rfl⟩  ;go_wp2_with fail  ;go_ret  ;exact ⟨ret_bool (by first | rfl | (simp [*])), hB1⟩)
      · (go_enter Try.func7, Try.ntmps7  ;go_wp2_with fail  ;refine (head_any _).mono ?_  ;rintro e w1 ⟨rfl, hB1⟩  ;go_wp2_with fail  ;refine (G.out _).mono ?_  ;rintro e w' ⟨rfl, rfl⟩  ;go_wp2_with fail  ;refine (F.out _).mono ?_  ;rintro e w' ⟨rfl, rfl⟩  ;go_wp2_with fail  ;go_ret  ;exact ⟨ret_bool (by first | rfl | (simp [*])), hB1⟩)
    · by_cases u2 : hi < 100
      · have e1 : hi ≤ 900 := by omega
        have e2 : ¬ 100 ≤ hi := by omega
        obtain rfl : f = 19 := by rw [← hf]; unfold airE; rw [if_neg u1, if_pos u2]
        obtain rfl : e = 19 := by rw [← he]; unfold airE; rw [if_neg (by omega), if_pos (by omega)]
        clear hx hy hf he
        (go_enter Try.func7, Try.ntmps7  ;go_wp2_with fail  ;refine (head_any _).mono ?_  ;rintro e w1 ⟨rfl, hB1⟩  ;go_wp2_with fail  ;refine (G.out _).mono ?_  ;rintro e w' ⟨rfl, rfl⟩  ;go_wp2_with fail  ;refine (F.out _).mono ?_  ;rintro e w' ⟨rfl, rfl⟩  ;go_wp2_with fail  ;go_ret  ;exact ⟨ret_bool (by first | rfl | (simp [*])), hB1⟩)
      · have e1 : hi ≤ 900 := by omega
        have e2 : 100 ≤ hi := by omega
        obtain rfl : f = 0 := by rw [← hf]; unfold airE; rw [if_neg u1, if_neg u2]
        obtain ⟨y1, y2⟩ : 1000 ≤ y ∧ y ≤ 9000 := by rw [← hy]; unfold airV; rw [if_neg u1, if_neg u2]; exact air_bd hi e2 e1
        have y3 : ¬ y < 1000 := by omega
        have y4 : ¬ 9000 < y := by omega
        by_cases u3 : lo < 100
        · obtain rfl : e = 19 := by rw [← he]; unfold airE; rw [if_neg (by omega), if_pos (by omega)]
          clear hx hy hf he
          (go_enter Try.func7, Try.ntmps7  ;go_wp2_with fail  ;refine (head_any _).mono ?_  ;rintro e w1 ⟨rfl, hB1⟩  ;go_wp2_with fail  ;refine (G.out _).mono ?_  ;rintro e w' ⟨rfl, rfl⟩  ;go_wp2_with fail  ;refine (F.out _).mono ?_  ;rintro e w' ⟨rfl, rfl⟩  ;go_wp2_with fail  ;go_ret  ;exact ⟨ret_bool (by first | rfl | (simp [*])), hB1⟩)
        · obtain rfl : e = 0 := by rw [← he]; unfold airE; rw [if_neg (by omega), if_neg (by omega)]
          have y5 : y ≤ x := by rw [← hy, ← hx]; unfold airV; rw [if_neg u1, if_neg u2, if_neg (by omega), if_neg u3]; exact air_falls lo hi (by omega) hle
          clear hx hy hf he
          (go_enter Try.func7, Try.ntmps7  ;go_wp2_with fail  ;refine (head_any _).mono ?_  ;rintro e w1 ⟨rfl, hB1⟩  ;go_wp2_with fail  ;refine (G.out _).mono ?_  ;rintro e w' ⟨rfl, rfl⟩  ;go_wp2_with fail  ;refine (F.out _).mono ?_  ;rintro e w' ⟨rfl, rfl⟩  ;go_wp2_with fail  ;go_ret  ;exact ⟨ret_bool (by first | rfl | (simp [*])), hB1⟩)
  · clear hle
    by_cases u1 : 900 < hi
    · have e1 : ¬ hi ≤ 900 := by omega
      have e2 : 100 ≤ hi := by omega
      obtain rfl : f = 1 := by rw [← hf]; unfold airE; rw [if_pos u1]
      clear hx hy hf he
      by_cases z : e = 0
      · subst z
        (go_enter Try.func7, Try.ntmps7  ;go_wp2_with fail  ;refine (head_any _).mono ?_  ;rintro e w1 ⟨rfl, hB1⟩  ;go_wp2_with fail  ;refine (G.out _).mono ?_  ;rintro e w' ⟨rfl, rfl⟩  ;go_wp2_with fail  ;refine (F.out _).mono ?_  ;rintro e w' ⟨rfl, rfl⟩  ;go_wp2_with fail  ;go_ret  ;exact ⟨ret_bool (by first | rfl | (simp [*])), hB1⟩)
      · (go_enter Try.func7, Try.ntmps7  ;go_wp2_with fail  ;refine (head_any _).mono ?_  ;rintro e w1 ⟨rfl, hB1⟩  ;go_wp2_with fail  ;refine (G.out _).mono ?_  ;rintro e w' ⟨rfl, rfl⟩  ;go_wp2_with fail  ;refine (F.out _).mono ?_  ;rintro e w' ⟨rfl, rfl⟩  ;go_wp2_with fail  ;go_ret  ;exact ⟨ret_bool (by first | rfl | (simp [*])), hB1⟩)
    · by_cases u2 : hi < 100
      · have e1 : hi ≤ 900 := by omega
        have e2 : ¬ 100 ≤ hi := by omega
        obtain rfl : f = 19 := by rw [← hf]; unfold airE; rw [if_neg u1, if_pos u2]
        obtain rfl : e = 19 := by rw [← he]; unfold airE; rw [if_neg (by omega), if_pos (by omega)]
        clear hx hy hf he
        (go_enter Try.func7, Try.ntmps7  ;go_wp2_with fail  ;refine (head_any _).mono ?_  ;rintro e w1 ⟨rfl, hB1⟩  ;go_wp2_with fail  ;refine (G.out _).mono ?_  ;rintro e w' ⟨rfl, rfl⟩  ;go_wp2_with fail  ;refine (F.out _).mono ?_  ;rintro e w' ⟨rfl, rfl⟩  ;go_wp2_with fail  ;go_ret  ;exact ⟨ret_bool (by first | rfl | (simp [*])), hB1⟩)
      · have e1 : hi ≤ 900 := by omega
        have e2 : 100 ≤ hi := by omega
        obtain rfl : f = 0 := by rw [← hf]; unfold airE; rw [if_neg u1, if_neg u2]
        obtain ⟨y1, y2⟩ : 1000 ≤ y ∧ y ≤ 9000 := by rw [← hy]; unfold airV; rw [if_neg u1, if_neg u2]; exact air_bd hi e2 e1
        have y3 : ¬ y < 1000 := by omega
        have y4 : ¬ 9000 < y := by omega
        obtain rfl : e = 0 := by rw [← he]; unfold airE; rw [if_neg u1, if_neg u2]
        have y5 : y ≤ x := by rw [← hy, ← hx]; exact Int.le_refl _
        clear hx hy hf he
        (go_enter Try.func7, Try.ntmps7  ;go_wp2_with fail  ;refine (head_any _).mono ?_  ;rintro e w1 ⟨rfl, hB1⟩  ;go_wp2_with fail  ;refine (G.out _).mono ?_  ;rintro e w' ⟨rfl, rfl⟩  ;go_wp2_with fail  ;refine (F.out _).mono ?_  ;rintro e w' ⟨rfl, rfl⟩  ;go_wp2_with fail  ;go_ret  ;exact ⟨ret_bool (by first | rfl | (simp [*])), hB1⟩)
theorem falls_walk (a b : Int) (w : World) : Calls Try.prog 7 #[.int .i64 a, .int .i64 b] w fun e w' => e = .returned (.bool true) ∧ Below w.heap.size w w' := by
  rcases Int.lt_trichotomy a b with h | h | h
  · exact falls_to a b a b w (.inl ⟨h, rfl, rfl⟩)
  · exact falls_to a b a a w (.inr (.inr ⟨h, rfl, rfl⟩))
  · exact falls_to a b b a w (.inr (.inl ⟨h, rfl, rfl⟩))
end Go.Proofs.Ytgelhndjdngdnaa
