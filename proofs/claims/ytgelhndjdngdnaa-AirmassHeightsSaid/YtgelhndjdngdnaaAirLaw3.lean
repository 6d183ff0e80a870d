/- airmass: the statements Heights, Transits -/
import Derived.Test.YtgelhndjdngdnaaAirHead
namespace Go.Proofs.Ytgelhndjdngdnaa
open Go.RowKit







set_option maxHeartbeats 8000000 in
theorem heights_yes (s o t m n : Int) (w : World) (h1 : stOk s o ∧ mOk m) (h2 : stOk s t ∧ mOk n) : Calls Try.prog 5 #[.int .i64 s, .int .i64 o, .int .i64 t, .int .i64 m, .int .i64 n] w fun e w' => e = .returned (.bool true) ∧ Below w.heap.size w w' := by
  have k1 := fun w => height_yes s o m w h1.1 h1.2.1 h1.2.2
  have k2 := fun w => height_yes s t n w h2.1 h2.2.1 h2.2.2
  obtain ⟨⟨s0, s1, o0, o1⟩, m0, m1⟩ := h1
  obtain ⟨⟨_, _, t0, t1⟩, n0, n1⟩ := h2
  have k3 := fun w => hour_yes (o % 32) m w (by omega) (by omega) m0 m1
  have k4 := fun w => hour_yes (t % 32) n w (by omega) (by omega) n0 n1
  have b1 := hourF_bd (o % 32) m
  have b2 := hourF_bd (t % 32) n
  unfold heightF at k1 k2
  generalize hourF (o % 32) m = h at *
  generalize hourF (t % 32) n = k at *
  have H3 := hid k3
  have H4 := hid k4
  clear k3 k4
  have A1 := hid (fun w => labs_any (o / 32 - s) w (by omega) (by omega))
  have A2 := hid (fun w => labs_any (t / 32 - s) w (by omega) (by omega))
  have A3 := hid (fun w => labs_any h w (by omega) (by omega))
  have A4 := hid (fun w => labs_any k w (by omega) (by omega))
  have u1 : 0 ≤ absI (o / 32 - s) ∧ absI (o / 32 - s) ≤ 15 := by have := absI_bd (o / 32 - s); omega
  have u2 : 0 ≤ absI (t / 32 - s) ∧ absI (t / 32 - s) ≤ 15 := by have := absI_bd (t / 32 - s); omega
  have u3 : 0 ≤ absI h ∧ absI h ≤ 2880 := by have := absI_bd h; omega
  have u4 : 0 ≤ absI k ∧ absI k ≤ 2880 := by have := absI_bd k; omega
  generalize absI (o / 32 - s) = u at *
  generalize absI (t / 32 - s) = v at *
  generalize absI h = p at *
  generalize absI k = q at *
  obtain ⟨a, ha⟩ : ∃ a, 900 - 50 * u - 5 * p / 16 = a := ⟨_, rfl⟩
  obtain ⟨b, hb⟩ : ∃ b, 900 - 50 * v - 5 * q / 16 = b := ⟨_, rfl⟩
  rw [ha] at k1
  rw [hb] at k2
  have H1 := hid k1
  have H2 := hid k2
  clear k1 k2
  have f : v < u ∨ (¬ v < u ∧ q < p) ∨ (¬ v < u ∧ ¬ q < p ∧ b ≤ a) := by omega
  have f1 : -750 ≤ a ∧ a ≤ 900 := by omega
  have f2 : -750 ≤ b ∧ b ≤ 900 := by omega
  clear ha hb b1 b2 u1 u2 u3 u4
  obtain ⟨c1, c2⟩ := f1
  obtain ⟨c3, c4⟩ := f2
  have c5 : ¬ a < -750 := by omega
  have c6 : ¬ b < -750 := by omega
  have c7 : ¬ 900 < a := by omega
  have c8 : ¬ 900 < b := by omega
  rcases Int.lt_trichotomy a b with r | rfl | r
  · have r1 : ¬ b ≤ a := by omega
    have r2 : a ≤ b := by omega
    rcases f with f | ⟨f, f'⟩ | ⟨f, f', f''⟩
    · go_enter Try.func5, Try.ntmps5  ;go_wp2_with fail  ;refine (head_any _).mono ?_  ;rintro e w1 ⟨rfl, hB1⟩  ;go_wp2_with fail  ;refine (H1.out _).mono ?_  ;rintro e w' ⟨rfl, rfl⟩  ;go_wp2_with fail  ;refine (H2.out _).mono ?_  ;rintro e w' ⟨rfl, rfl⟩  ;go_wp2_with fail  ;refine (H3.out _).mono ?_  ;rintro e w' ⟨rfl, rfl⟩  ;go_wp2_with fail  ;refine (H4.out _).mono ?_  ;rintro e w' ⟨rfl, rfl⟩  ;go_wp2_with fail  ;refine (A1.out _).mono ?_  ;rintro e w' ⟨rfl, rfl⟩  ;go_wp2_with fail  ;refine (A2.out _).mono ?_  ;rintro e w' ⟨rfl, rfl⟩  ;go_wp2_with fail
      go_ret  ;exact ⟨ret_bool (by first | rfl | (simp [*])), hB1⟩
    · go_enter Try.func5, Try.ntmps5  ;go_wp2_with fail  ;refine (head_any _).mono ?_  ;rintro e w1 ⟨rfl, hB1⟩  ;go_wp2_with fail  ;refine (H1.out _).mono ?_  ;rintro e w' ⟨rfl, rfl⟩  ;go_wp2_with fail  ;refine (H2.out _).mono ?_  ;rintro e w' ⟨rfl, rfl⟩  ;go_wp2_with fail  ;refine (H3.out _).mono ?_  ;rintro e w' ⟨rfl, rfl⟩  ;go_wp2_with fail  ;refine (H4.out _).mono ?_  ;rintro e w' ⟨rfl, rfl⟩  ;go_wp2_with fail  ;refine (A1.out _).mono ?_  ;rintro e w' ⟨rfl, rfl⟩  ;go_wp2_with fail  ;refine (A2.out _).mono ?_  ;rintro e w' ⟨rfl, rfl⟩  ;go_wp2_with fail  ;refine (A3.out _).mono ?_  ;rintro e w' ⟨rfl, rfl⟩  ;go_wp2_with fail  ;refine (A4.out _).mono ?_  ;rintro e w' ⟨rfl, rfl⟩  ;go_wp2_with fail  ;go_ret  ;exact ⟨ret_bool (by first | rfl | (simp [*])), hB1⟩
    · exact absurd f'' r1
  · rcases f with f | ⟨f, f'⟩ | ⟨f, f', f''⟩
    · go_enter Try.func5, Try.ntmps5  ;go_wp2_with fail  ;refine (head_any _).mono ?_  ;rintro e w1 ⟨rfl, hB1⟩  ;go_wp2_with fail  ;refine (H1.out _).mono ?_  ;rintro e w' ⟨rfl, rfl⟩  ;go_wp2_with fail  ;refine (H2.out _).mono ?_  ;rintro e w' ⟨rfl, rfl⟩  ;go_wp2_with fail  ;refine (H3.out _).mono ?_  ;rintro e w' ⟨rfl, rfl⟩  ;go_wp2_with fail  ;refine (H4.out _).mono ?_  ;rintro e w' ⟨rfl, rfl⟩  ;go_wp2_with fail  ;refine (A1.out _).mono ?_  ;rintro e w' ⟨rfl, rfl⟩  ;go_wp2_with fail  ;refine (A2.out _).mono ?_  ;rintro e w' ⟨rfl, rfl⟩  ;go_wp2_with fail
      go_ret  ;exact ⟨ret_bool (by first | rfl | (simp [*])), hB1⟩
    · go_enter Try.func5, Try.ntmps5  ;go_wp2_with fail  ;refine (head_any _).mono ?_  ;rintro e w1 ⟨rfl, hB1⟩  ;go_wp2_with fail  ;refine (H1.out _).mono ?_  ;rintro e w' ⟨rfl, rfl⟩  ;go_wp2_with fail  ;refine (H2.out _).mono ?_  ;rintro e w' ⟨rfl, rfl⟩  ;go_wp2_with fail  ;refine (H3.out _).mono ?_  ;rintro e w' ⟨rfl, rfl⟩  ;go_wp2_with fail  ;refine (H4.out _).mono ?_  ;rintro e w' ⟨rfl, rfl⟩  ;go_wp2_with fail  ;refine (A1.out _).mono ?_  ;rintro e w' ⟨rfl, rfl⟩  ;go_wp2_with fail  ;refine (A2.out _).mono ?_  ;rintro e w' ⟨rfl, rfl⟩  ;go_wp2_with fail  ;refine (A3.out _).mono ?_  ;rintro e w' ⟨rfl, rfl⟩  ;go_wp2_with fail  ;refine (A4.out _).mono ?_  ;rintro e w' ⟨rfl, rfl⟩  ;go_wp2_with fail  ;go_ret  ;exact ⟨ret_bool (by first | rfl | (simp [*])), hB1⟩
    · go_enter Try.func5, Try.ntmps5  ;go_wp2_with fail  ;refine (head_any _).mono ?_  ;rintro e w1 ⟨rfl, hB1⟩  ;go_wp2_with fail  ;refine (H1.out _).mono ?_  ;rintro e w' ⟨rfl, rfl⟩  ;go_wp2_with fail  ;refine (H2.out _).mono ?_  ;rintro e w' ⟨rfl, rfl⟩  ;go_wp2_with fail  ;refine (H3.out _).mono ?_  ;rintro e w' ⟨rfl, rfl⟩  ;go_wp2_with fail  ;refine (H4.out _).mono ?_  ;rintro e w' ⟨rfl, rfl⟩  ;go_wp2_with fail  ;refine (A1.out _).mono ?_  ;rintro e w' ⟨rfl, rfl⟩  ;go_wp2_with fail  ;refine (A2.out _).mono ?_  ;rintro e w' ⟨rfl, rfl⟩  ;go_wp2_with fail  ;refine (A3.out _).mono ?_  ;rintro e w' ⟨rfl, rfl⟩  ;go_wp2_with fail  ;refine (A4.out _).mono ?_  ;rintro e w' ⟨rfl, rfl⟩  ;go_wp2_with fail  ;go_ret  ;exact ⟨ret_bool (by first | rfl | (simp [*])), hB1⟩
  · have r1 : ¬ a ≤ b := by omega
    have r2 : b ≤ a := by omega
    rcases f with f | ⟨f, f'⟩ | ⟨f, f', f''⟩
    · go_enter Try.func5, Try.ntmps5  ;go_wp2_with fail  ;refine (head_any _).mono ?_  ;rintro e w1 ⟨rfl, hB1⟩  ;go_wp2_with fail  ;refine (H1.out _).mono ?_  ;rintro e w' ⟨rfl, rfl⟩  ;go_wp2_with fail  ;refine (H2.out _).mono ?_  ;rintro e w' ⟨rfl, rfl⟩  ;go_wp2_with fail  ;refine (H3.out _).mono ?_  ;rintro e w' ⟨rfl, rfl⟩  ;go_wp2_with fail  ;refine (H4.out _).mono ?_  ;rintro e w' ⟨rfl, rfl⟩  ;go_wp2_with fail  ;refine (A1.out _).mono ?_  ;rintro e w' ⟨rfl, rfl⟩  ;go_wp2_with fail  ;refine (A2.out _).mono ?_  ;rintro e w' ⟨rfl, rfl⟩  ;go_wp2_with fail
      go_ret  ;exact ⟨ret_bool (by first | rfl | (simp [*])), hB1⟩
    · go_enter Try.func5, Try.ntmps5  ;go_wp2_with fail  ;refine (head_any _).mono ?_  ;rintro e w1 ⟨rfl, hB1⟩  ;go_wp2_with fail  ;refine (H1.out _).mono ?_  ;rintro e w' ⟨rfl, rfl⟩  ;go_wp2_with fail  ;refine (H2.out _).mono ?_  ;rintro e w' ⟨rfl, rfl⟩  ;go_wp2_with fail  ;refine (H3.out _).mono ?_  ;rintro e w' ⟨rfl, rfl⟩  ;go_wp2_with fail  ;refine (H4.out _).mono ?_  ;rintro e w' ⟨rfl, rfl⟩  ;go_wp2_with fail  ;refine (A1.out _).mono ?_  ;rintro e w' ⟨rfl, rfl⟩  ;go_wp2_with fail  ;refine (A2.out _).mono ?_  ;rintro e w' ⟨rfl, rfl⟩  ;go_wp2_with fail  ;refine (A3.out _).mono ?_  ;rintro e w' ⟨rfl, rfl⟩  ;go_wp2_with fail  ;refine (A4.out _).mono ?_  ;rintro e w' ⟨rfl, rfl⟩  ;go_wp2_with fail  ;go_ret  ;exact ⟨ret_bool (by first | rfl | (simp [*])), hB1⟩
    · go_enter Try.func5, Try.ntmps5  ;go_wp2_with fail  ;refine (head_any _).mono ?_  ;rintro e w1 ⟨rfl, hB1⟩  ;go_wp2_with fail  ;refine (H1.out _).mono ?_  ;rintro e w' ⟨rfl, rfl⟩  ;go_wp2_with fail  ;refine (H2.out _).mono ?_  ;rintro e w' ⟨rfl, rfl⟩  ;go_wp2_with fail  ;refine (H3.out _).mono ?_  ;rintro e w' ⟨rfl, rfl⟩  ;go_wp2_with fail  ;refine (H4.out _).mono ?_  ;rintro e w' ⟨rfl, rfl⟩  ;go_wp2_with fail  ;refine (A1.out _).mono ?_  ;rintro e w' ⟨rfl, rfl⟩  ;go_wp2_with fail  ;refine (A2.out _).mono ?_  ;rintro e w' ⟨rfl, rfl⟩  ;go_wp2_with fail  ;refine (A3.out _).mono ?_  ;rintro e w' ⟨rfl, rfl⟩  ;go_wp2_with fail  ;refine (A4.out _).mono ?_  ;rintro e w' ⟨rfl, rfl⟩  ;go_wp2_with fail  ;go_ret  ;exact ⟨ret_bool (by first | rfl | (simp [*])), hB1⟩

set_option maxHeartbeats 4000000 in
theorem heights_walk (s o t m n : Int) (w : World) : Calls Try.prog 5 #[.int .i64 s, .int .i64 o, .int .i64 t, .int .i64 m, .int .i64 n] w fun e w' => e = .returned (.bool true) ∧ Below w.heap.size w w' := by
  by_cases h1 : stOk s o ∧ mOk m
  · by_cases h2 : stOk s t ∧ mOk n
    · exact heights_yes s o t m n w h1 h2
    · have H1 := hid (fun w => height_yes s o m w h1.1 h1.2.1 h1.2.2)
      have H2 := hid (fun w => height_no s t n w h2)
      generalize heightF s o m = a at *
      clear h1 h2
      go_enter Try.func5, Try.ntmps5  ;go_wp2_with fail  ;refine (head_any _).mono ?_  ;rintro e w1 ⟨rfl, hB1⟩  ;go_wp2_with fail  ;refine (H1.out _).mono ?_  ;rintro e w' ⟨rfl, rfl⟩  ;go_wp2_with fail  ;refine (H2.out _).mono ?_  ;rintro e w' ⟨rfl, rfl⟩  ;go_wp2_with fail
      go_ret  ;exact ⟨ret_bool (by first | rfl | (simp [*])), hB1⟩
  · by_cases h2 : stOk s t ∧ mOk n
    · have H1 := hid (fun w => height_no s o m w h1)
      have H2 := hid (fun w => height_yes s t n w h2.1 h2.2.1 h2.2.2)
      generalize heightF s t n = a at *
      clear h1 h2
      go_enter Try.func5, Try.ntmps5  ;go_wp2_with fail  ;refine (head_any _).mono ?_  ;rintro e w1 ⟨rfl, hB1⟩  ;go_wp2_with fail  ;refine (H1.out _).mono ?_  ;rintro e w' ⟨rfl, rfl⟩  ;go_wp2_with fail  ;refine (H2.out _).mono ?_  ;rintro e w' ⟨rfl, rfl⟩  ;go_wp2_with fail
      go_ret  ;exact ⟨ret_bool (by first | rfl | (simp [*])), hB1⟩
    · have H1 := hid (fun w => height_no s o m w h1)
      have H2 := hid (fun w => height_no s t n w h2)
      clear h1 h2
      go_enter Try.func5, Try.ntmps5  ;go_wp2_with fail  ;refine (head_any _).mono ?_  ;rintro e w1 ⟨rfl, hB1⟩  ;go_wp2_with fail  ;refine (H1.out _).mono ?_  ;rintro e w' ⟨rfl, rfl⟩  ;go_wp2_with fail  ;refine (H2.out _).mono ?_  ;rintro e w' ⟨rfl, rfl⟩  ;go_wp2_with fail
      go_ret  ;exact ⟨ret_bool (by first | rfl | (simp [*])), hB1⟩

/-- the slot at which the column of a tile is nearest to the south -/
def south (c n : Int) : Int := ((5790 - (16 * n - 180 * c - 90) % 5760) / 60) % 96
theorem south_bd (c n : Int) : 0 ≤ south c n ∧ south c n < 96 := by unfold south; omega
theorem south_hour (c n : Int) : absI (hourF c (96 * n + south c n)) ≤ 30 := by
  have hs := south_bd c n
  have h1 : hourF c (96 * n + south c n) ≤ 30 ∧ -30 ≤ hourF c (96 * n + south c n) := by
    unfold hourF sid
    rw [show (96 * n + south c n) / 96 = n by omega, show (96 * n + south c n) % 96 = south c n by omega]
    unfold south
    generalize hC : (16 * n - 180 * c - 90) % 5760 = C
    generalize hq : (5790 - C) / 60 = q
    have h2 : 0 ≤ C ∧ C < 5760 := by omega
    have h3 : q % 96 = q ∨ (q = 96 ∧ q % 96 = 0) := by omega
    have h6 : ∀ r : Int, ((60 * r + 16 * n) % 5760 - 180 * c - 90 + 2880) % 5760 = (60 * r + C + 2880) % 5760 := by
      intro r
      have e1 : 60 * r + C + 2880 = ((60 * r + 16 * n) % 5760 - 180 * c - 90 + 2880) + 5760 * ((60 * r + 16 * n) / 5760 - (16 * n - 180 * c - 90) / 5760) := by omega
      rw [e1, Int.add_mul_emod_self_left]
    rcases h3 with h3 | ⟨h3, h4⟩
    · rw [h3, h6 q]; clear h6 hC hs; omega
    · rw [h4, h6 0]; clear h6 hC hs; omega
  have := absI_bd (hourF c (96 * n + south c n))
  omega


set_option maxHeartbeats 4000000 in
theorem transits_walk (s t n : Int) (w : World) : Calls Try.prog 9 #[.int .i64 s, .int .i64 t, .int .i64 n] w fun e w' => e = .returned (.bool true) ∧ Below w.heap.size w w' := by
  by_cases c1 : s < 0
  · go_enter Try.func9, Try.ntmps9  ;go_wp2_with fail  ;refine (head_any _).mono ?_  ;rintro e w1 ⟨rfl, hB1⟩  ;go_wp2_with fail
    go_ret  ;exact ⟨ret_bool (by first | rfl | (simp [*])), hB1⟩
  by_cases c2 : 15 < s
  · go_enter Try.func9, Try.ntmps9  ;go_wp2_with fail  ;refine (head_any _).mono ?_  ;rintro e w1 ⟨rfl, hB1⟩  ;go_wp2_with fail
    go_ret  ;exact ⟨ret_bool (by first | rfl | (simp [*])), hB1⟩
  by_cases c3 : t < 0
  · go_enter Try.func9, Try.ntmps9  ;go_wp2_with fail  ;refine (head_any _).mono ?_  ;rintro e w1 ⟨rfl, hB1⟩  ;go_wp2_with fail
    go_ret  ;exact ⟨ret_bool (by first | rfl | (simp [*])), hB1⟩
  by_cases c4 : 511 < t
  · go_enter Try.func9, Try.ntmps9  ;go_wp2_with fail  ;refine (head_any _).mono ?_  ;rintro e w1 ⟨rfl, hB1⟩  ;go_wp2_with fail
    go_ret  ;exact ⟨ret_bool (by first | rfl | (simp [*])), hB1⟩
  by_cases c5 : n < 0
  · go_enter Try.func9, Try.ntmps9  ;go_wp2_with fail  ;refine (head_any _).mono ?_  ;rintro e w1 ⟨rfl, hB1⟩  ;go_wp2_with fail
    go_ret  ;exact ⟨ret_bool (by first | rfl | (simp [*])), hB1⟩
  by_cases c6 : 399 < n
  · go_enter Try.func9, Try.ntmps9  ;go_wp2_with fail  ;refine (head_any _).mono ?_  ;rintro e w1 ⟨rfl, hB1⟩  ;go_wp2_with fail
    go_ret  ;exact ⟨ret_bool (by first | rfl | (simp [*])), hB1⟩
  have HS := hid (south_hour (t % 32) n)
  obtain ⟨z, hz⟩ : ∃ z : Nat, south (t % 32) n = (z : Int) := ⟨(south (t % 32) n).toNat, by have := south_bd (t % 32) n; omega⟩
  have hz1 : z < 96 := by have := south_bd (t % 32) n; omega
  rw [hz] at HS
  clear hz
  have A2 := hid (fun w => labs_any (t / 32 - s) w (by omega) (by omega))
  have u2 : 0 ≤ absI (t / 32 - s) ∧ absI (t / 32 - s) ≤ 15 := by have := absI_bd (t / 32 - s); omega
  have HE := hid (fun m => show heightF s t m = 900 - 50 * absI (t / 32 - s) - 5 * absI (hourF (t % 32) m) / 16 from rfl)
  generalize absI (t / 32 - s) = v at *
  obtain ⟨v0, v1⟩ := u2
  go_enter Try.func9, Try.ntmps9  ;go_wp2_with fail  ;refine (head_any _).mono ?_  ;rintro e w1 ⟨rfl, hB1⟩  ;go_wp2_with fail
  obtain ⟨wo, rfl⟩ : ∃ wo : World, wo = w1 := ⟨_, rfl⟩
  go_loopw [8] (fun s4 wr => wr = wo ∧ ∃ k : Nat, s4 = .int .i64 k ∧ k ≤ z) (fun s4 _ => 96 - (intOf s4).toNat)
  case atStart => exact ⟨rfl, 0, rfl, by omega⟩
  case round =>
    obtain ⟨rfl, k, rfl, hk⟩ := hrel
    have hI : (k : Int) < 96 := by omega
    have H1 := hid (fun w => hour_yes (t % 32) (96 * n + (k : Int)) w (by omega) (by omega) (by omega) (by omega))
    have hb := hourF_bd (t % 32) (96 * n + (k : Int))
    have H2 := hid (fun w => height_yes s t (96 * n + (k : Int)) w ⟨by omega, by omega, by omega, by omega⟩ (by omega) (by omega))
    rw [HE.out] at H2
    have hzk : k = z → absI (hourF (t % 32) (96 * n + (k : Int))) ≤ 30 := fun e => by rw [e]; exact HS.out
    generalize hourF (t % 32) (96 * n + (k : Int)) = h at *
    have A1 := hid (fun w => labs_any h w (by omega) (by omega))
    have u3 : 0 ≤ absI h := by have := absI_bd h; omega
    generalize absI h = p at *
    have HZ := hid hzk
    clear hzk hb
    by_cases hp : p ≤ 30
    · obtain ⟨a, ha⟩ : ∃ a, 900 - 50 * v - 5 * p / 16 = a := ⟨_, rfl⟩
      rw [ha] at H2
      have hge : 891 - 50 * v ≤ a := by omega
      clear ha
      go_wp2_with fail
      refine (H1.out _).mono ?_
      rintro e w' ⟨rfl, rfl⟩  ;go_wp2_with fail
      refine (A1.out _).mono ?_
      rintro e w' ⟨rfl, rfl⟩  ;go_wp2_with fail
      refine (H2.out _).mono ?_
      rintro e w' ⟨rfl, rfl⟩  ;go_wp2_with fail
      refine (A2.out _).mono ?_
      rintro e w' ⟨rfl, rfl⟩  ;go_wp2_with fail
      go_ret  ;exact ⟨ret_bool (by first | rfl | (simp [*])), hB1⟩
    · have hkz : k ≠ z := fun e => hp (HZ.out e)
      go_wp2_with fail
      refine (H1.out _).mono ?_
      rintro e w' ⟨rfl, rfl⟩  ;go_wp2_with fail
      refine (A1.out _).mono ?_
      rintro e w' ⟨rfl, rfl⟩  ;go_wp2_with fail
      go_roundw
      case rel => exact ⟨(by first | trivial | rfl), k + 1, by go_num, by omega⟩
      case measure => simp [intOf] <;> omega
end Go.Proofs.Ytgelhndjdngdnaa
