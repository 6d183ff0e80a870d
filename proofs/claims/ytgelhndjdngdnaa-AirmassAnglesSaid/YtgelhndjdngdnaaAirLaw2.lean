/- airmass: the statements Hours, Angles -/
import Derived.Test.YtgelhndjdngdnaaAirHead
namespace Go.Proofs.Ytgelhndjdngdnaa
open Go.RowKit



theorem hour_next (c m : Int) : Int.tmod (hourF c m - 180 - hourF ((c + 1) % 32) m) 5760 = 0 := by
  refine Int.tmod_eq_zero_of_dvd ?_
  unfold hourF
  omega
theorem hour_slot (c m : Int) (h1 : m % 96 < 95) : Int.tmod (hourF c m + 60 - hourF c (m + 1)) 5760 = 0 := by
  refine Int.tmod_eq_zero_of_dvd ?_
  unfold hourF sid
  rw [show (m + 1) / 96 = m / 96 by omega, show (m + 1) % 96 = m % 96 + 1 by omega]
  generalize m / 96 = q
  generalize m % 96 = r at *
  omega
theorem hour_night (c m : Int) : Int.tmod (hourF c m + 16 - hourF c (m + 96)) 5760 = 0 := by
  refine Int.tmod_eq_zero_of_dvd ?_
  unfold hourF sid
  rw [show (m + 96) / 96 = m / 96 + 1 by omega, show (m + 96) % 96 = m % 96 by omega]
  generalize m / 96 = q
  generalize m % 96 = r at *
  omega


set_option maxHeartbeats 4000000 in
theorem hours_yes (c m : Int) (w : World) (h0 : 0 ≤ c) (h1 : c < 32) (m0 : 0 ≤ m) (m1 : m ≤ 38399) : Calls Try.prog 4 #[.int .i64 c, .int .i64 m] w fun e w' => e = .returned (.bool true) ∧ Below w.heap.size w w' := by
  have t1 := hour_next c m
  have t2 := hour_slot c m
  have t3 := hour_night c m
  have k1 := hourF_bd c m
  have k4 := hourF_bd ((c + 1) % 32) m
  have k7 := hourF_bd c (m + 1)
  have k9 := hourF_bd c (m + 96)
  have H1 := hid (fun w => hour_yes c m w h0 h1 m0 m1)
  have H2 := hid (fun w => hour_yes ((c + 1) % 32) m w (by omega) (by omega) m0 m1)
  have h3 : ∀ (_ : m % 96 < 95), ∀ w, _ := fun (_ : m % 96 < 95) w => hour_yes c (m + 1) w h0 h1 (by omega) (by omega)
  have h4 : ∀ (_ : m + 96 ≤ 38399), ∀ w, _ := fun (_ : m + 96 ≤ 38399) w => hour_yes c (m + 96) w h0 h1 (by omega) (by omega)
  obtain ⟨a, ha⟩ : ∃ a, hourF c m = a := ⟨_, rfl⟩
  obtain ⟨b, hb⟩ : ∃ b, hourF ((c + 1) % 32) m = b := ⟨_, rfl⟩
  obtain ⟨x, hx⟩ : ∃ b, hourF c (m + 1) = b := ⟨_, rfl⟩
  obtain ⟨y, hy⟩ : ∃ b, hourF c (m + 96) = b := ⟨_, rfl⟩
  rw [ha] at H1 t1 t2 t3 k1
  rw [hb] at H2 t1 k4
  rw [hx] at h3 t2 k7
  rw [hy] at h4 t3 k9
  clear hb ha hx hy
  obtain ⟨k2, k3⟩ := k1
  obtain ⟨k5, k6⟩ := k4
  obtain ⟨k7, k8⟩ := k7
  obtain ⟨k9, k10⟩ := k9
  have c1 : ¬ a < -2880 := by omega
  have c2 : ¬ 2879 < a := by omega
  have c3 : ¬ c < 0 := by omega
  have c4 : ¬ 31 < c := by omega
  have c5 : ¬ m < 0 := by omega
  have c6 : ¬ 38399 < m := by omega
  have T2 := hid t2
  have T3 := hid h3
  have T4 := hid h4
  clear t2 h3 h4
  by_cases s1 : m % 96 < 95
  · have q2 := T2.out s1
    have H3 := hid (T3.out s1)
    clear T2 T3
    by_cases s2 : 38399 < m + 96
    · have H4 := hid (fun w => hour_any c (m + 96) w)
      clear T4
      generalize hourV c (m + 96) = z at *
      generalize hourE c (m + 96) = zz at *
      go_enter Try.func4, Try.ntmps4
      go_wp2_with fail  ;refine (head_any _).mono ?_  ;rintro e w1 ⟨rfl, hB1⟩  ;go_wp2_with fail
      refine (H1.out _).mono ?_  ;rintro e w' ⟨rfl, rfl⟩  ;go_wp2_with fail  ;refine (H2.out _).mono ?_  ;rintro e w' ⟨rfl, rfl⟩  ;go_wp2_with fail  ;refine (H3.out _).mono ?_  ;rintro e w' ⟨rfl, rfl⟩  ;go_wp2_with fail  ;refine (H4.out _).mono ?_  ;rintro e w' ⟨rfl, rfl⟩  ;go_wp2_with fail  ;go_ret  ;exact ⟨ret_bool (by first | rfl | (simp [*])), hB1⟩
    · have H4 := hid (T4.out (by omega))
      clear T4
      go_enter Try.func4, Try.ntmps4
      go_wp2_with fail  ;refine (head_any _).mono ?_  ;rintro e w1 ⟨rfl, hB1⟩  ;go_wp2_with fail
      refine (H1.out _).mono ?_  ;rintro e w' ⟨rfl, rfl⟩  ;go_wp2_with fail  ;refine (H2.out _).mono ?_  ;rintro e w' ⟨rfl, rfl⟩  ;go_wp2_with fail  ;refine (H3.out _).mono ?_  ;rintro e w' ⟨rfl, rfl⟩  ;go_wp2_with fail  ;refine (H4.out _).mono ?_  ;rintro e w' ⟨rfl, rfl⟩  ;go_wp2_with fail  ;go_ret  ;exact ⟨ret_bool (by first | rfl | (simp [*])), hB1⟩
  · have H3 := hid (fun w => hour_any c (m + 1) w)
    clear T2 T3
    generalize hourV c (m + 1) = z1 at *
    generalize hourE c (m + 1) = z2 at *
    by_cases s2 : 38399 < m + 96
    · have H4 := hid (fun w => hour_any c (m + 96) w)
      clear T4
      generalize hourV c (m + 96) = z at *
      generalize hourE c (m + 96) = zz at *
      go_enter Try.func4, Try.ntmps4
      go_wp2_with fail  ;refine (head_any _).mono ?_  ;rintro e w1 ⟨rfl, hB1⟩  ;go_wp2_with fail
      refine (H1.out _).mono ?_  ;rintro e w' ⟨rfl, rfl⟩  ;go_wp2_with fail  ;refine (H2.out _).mono ?_  ;rintro e w' ⟨rfl, rfl⟩  ;go_wp2_with fail  ;refine (H3.out _).mono ?_  ;rintro e w' ⟨rfl, rfl⟩  ;go_wp2_with fail  ;refine (H4.out _).mono ?_  ;rintro e w' ⟨rfl, rfl⟩  ;go_wp2_with fail  ;go_ret  ;exact ⟨ret_bool (by first | rfl | (simp [*])), hB1⟩
    · have H4 := hid (T4.out (by omega))
      clear T4
      go_enter Try.func4, Try.ntmps4
      go_wp2_with fail  ;refine (head_any _).mono ?_  ;rintro e w1 ⟨rfl, hB1⟩  ;go_wp2_with fail
      refine (H1.out _).mono ?_  ;rintro e w' ⟨rfl, rfl⟩  ;go_wp2_with fail  ;refine (H2.out _).mono ?_  ;rintro e w' ⟨rfl, rfl⟩  ;go_wp2_with fail  ;refine (H3.out _).mono ?_  ;rintro e w' ⟨rfl, rfl⟩  ;go_wp2_with fail  ;refine (H4.out _).mono ?_  ;rintro e w' ⟨rfl, rfl⟩  ;go_wp2_with fail  ;go_ret  ;exact ⟨ret_bool (by first | rfl | (simp [*])), hB1⟩

set_option maxHeartbeats 2000000 in
theorem hours_walk (c m : Int) (w : World) : Calls Try.prog 4 #[.int .i64 c, .int .i64 m] w fun e w' => e = .returned (.bool true) ∧ Below w.heap.size w w' := by
  by_cases h : cOk c ∧ mOk m
  · exact hours_yes c m w h.1.1 h.1.2 h.2.1 h.2.2
  · have H1 := hid (fun w => hour_no c m w h)
    by_cases c1 : c < 0
    · clear h
      go_enter Try.func4, Try.ntmps4
      go_wp2_with fail  ;refine (head_any _).mono ?_  ;rintro e w1 ⟨rfl, hB1⟩  ;go_wp2_with fail
      refine (H1.out _).mono ?_
      rintro e w' ⟨rfl, rfl⟩
      go_wp2_with fail
      go_ret  ;exact ⟨ret_bool (by first | rfl | (simp [*])), hB1⟩
    · by_cases c2 : 31 < c
      · clear h
        go_enter Try.func4, Try.ntmps4
        go_wp2_with fail  ;refine (head_any _).mono ?_  ;rintro e w1 ⟨rfl, hB1⟩  ;go_wp2_with fail
        refine (H1.out _).mono ?_
        rintro e w' ⟨rfl, rfl⟩
        go_wp2_with fail
        go_ret  ;exact ⟨ret_bool (by first | rfl | (simp [*])), hB1⟩
      · by_cases c3 : m < 0
        · clear h
          go_enter Try.func4, Try.ntmps4
          go_wp2_with fail  ;refine (head_any _).mono ?_  ;rintro e w1 ⟨rfl, hB1⟩  ;go_wp2_with fail
          refine (H1.out _).mono ?_
          rintro e w' ⟨rfl, rfl⟩
          go_wp2_with fail
          go_ret  ;exact ⟨ret_bool (by first | rfl | (simp [*])), hB1⟩
        · have c4 : 38399 < m := by unfold cOk mOk at h; omega
          clear h
          go_enter Try.func4, Try.ntmps4
          go_wp2_with fail  ;refine (head_any _).mono ?_  ;rintro e w1 ⟨rfl, hB1⟩  ;go_wp2_with fail
          refine (H1.out _).mono ?_
          rintro e w' ⟨rfl, rfl⟩
          go_wp2_with fail
          go_ret  ;exact ⟨ret_bool (by first | rfl | (simp [*])), hB1⟩

theorem sid_hour (c m n : Int) (h : sid m = sid n) : hourF c m = hourF c n := by unfold hourF; rw [h]
theorem sid_height (s t m n : Int) (h : sid m = sid n) : heightF s t m = heightF s t n := by unfold heightF; rw [sid_hour _ m n h]

set_option maxHeartbeats 2000000 in
theorem angles_walk (s t m n : Int) (w : World) : Calls Try.prog 6 #[.int .i64 s, .int .i64 t, .int .i64 m, .int .i64 n] w fun e w' => e = .returned (.bool true) ∧ Below w.heap.size w w' := by
  by_cases hm : mOk m
  · have H1 := hid (fun w => sidereal_yes m w hm.1 hm.2)
    by_cases hn : mOk n
    · have H2 := hid (fun w => sidereal_yes n w hn.1 hn.2)
      by_cases hs : sid m = sid n
      · have hv : heightV s t n = heightV s t m := by unfold heightV; rw [sid_height s t m n hs]; simp [hm, hn]
        have he : heightE s t n = heightE s t m := by unfold heightE; simp [hm, hn]
        have h3 := fun w => height_any s t m w
        have h4 := fun w => height_any s t n w
        rw [hv, he] at h4
        rw [← hs] at H2
        have H3 := hid h3
        have H4 := hid h4
        clear h3 h4 hv he hs hm hn
        generalize sid m = x at *
        generalize heightV s t m = a at *
        generalize heightE s t m = b at *
        go_enter Try.func6, Try.ntmps6
        go_wp2_with fail  ;refine (head_any _).mono ?_  ;rintro e w1 ⟨rfl, hB1⟩  ;go_wp2_with fail
        refine (H1.out _).mono ?_  ;rintro e w' ⟨rfl, rfl⟩  ;go_wp2_with fail  ;refine (H2.out _).mono ?_  ;rintro e w' ⟨rfl, rfl⟩  ;go_wp2_with fail  ;refine (H3.out _).mono ?_  ;rintro e w' ⟨rfl, rfl⟩  ;go_wp2_with fail  ;refine (H4.out _).mono ?_  ;rintro e w' ⟨rfl, rfl⟩  ;go_wp2_with fail  ;go_ret  ;exact ⟨ret_bool (by first | rfl | (simp [*])), hB1⟩
      · have hs' : (sid m != sid n) = true := by simpa using hs
        generalize sid m = x at *
        generalize sid n = y at *
        clear hm hn
        go_enter Try.func6, Try.ntmps6
        go_wp2_with fail  ;refine (head_any _).mono ?_  ;rintro e w1 ⟨rfl, hB1⟩  ;go_wp2_with fail
        refine (H1.out _).mono ?_
        rintro e w' ⟨rfl, rfl⟩
        go_wp2_with fail
        refine (H2.out _).mono ?_
        rintro e w' ⟨rfl, rfl⟩
        go_wp2_with fail
        go_ret  ;exact ⟨ret_bool (by first | rfl | (simp [*])), hB1⟩
    · have H2 := hid (fun w => sidereal_no n w hn)
      clear hm hn
      generalize sid m = x at *
      go_enter Try.func6, Try.ntmps6
      go_wp2_with fail  ;refine (head_any _).mono ?_  ;rintro e w1 ⟨rfl, hB1⟩  ;go_wp2_with fail
      refine (H1.out _).mono ?_
      rintro e w' ⟨rfl, rfl⟩
      go_wp2_with fail
      refine (H2.out _).mono ?_
      rintro e w' ⟨rfl, rfl⟩
      go_wp2_with fail
      go_ret  ;exact ⟨ret_bool (by first | rfl | (simp [*])), hB1⟩
  · have H1 := hid (fun w => sidereal_no m w hm)
    have H2 := hid (fun w => sid_any n w)
    generalize sidV n = x at *
    generalize sidE n = y at *
    clear hm
    go_enter Try.func6, Try.ntmps6
    go_wp2_with fail  ;refine (head_any _).mono ?_  ;rintro e w1 ⟨rfl, hB1⟩  ;go_wp2_with fail
    refine (H1.out _).mono ?_
    rintro e w' ⟨rfl, rfl⟩
    go_wp2_with fail
    refine (H2.out _).mono ?_
    rintro e w' ⟨rfl, rfl⟩
    go_wp2_with fail
    go_ret  ;exact ⟨ret_bool (by first | rfl | (simp [*])), hB1⟩
end Go.Proofs.Ytgelhndjdngdnaa
