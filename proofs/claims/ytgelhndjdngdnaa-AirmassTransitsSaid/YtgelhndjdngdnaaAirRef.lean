/- airmass: the reference's numbers -/
import Derived.Test.YtgelhndjdngdnaaAirBase
namespace Go.Proofs.Ytgelhndjdngdnaa
open Go.RowKit

theorem ris_yes (m : Int) (w : World) (h0 : 0 ≤ m) (h1 : m ≤ 38399) : Calls Try.prog 26 #[.int .i64 m] w fun e w' => e = .returned (.bool true) ∧ w = w' := by
  go_enter Try.func26, Try.ntmps26
  go_wp2
  go_ret
  exact ⟨ret_bool (by first | rfl | (simp [*])), rfl⟩
theorem ris_no (m : Int) (w : World) (h : ¬ (0 ≤ m ∧ m ≤ 38399)) : Calls Try.prog 26 #[.int .i64 m] w fun e w' => e = .returned (.bool false) ∧ w = w' := by
  by_cases h0 : 0 ≤ m
  · have h1 : ¬ m ≤ 38399 := fun h1 => h ⟨h0, h1⟩
    clear h
    go_enter Try.func26, Try.ntmps26
    go_wp2
    go_ret
    exact ⟨ret_bool (by first | rfl | (simp [*])), rfl⟩
  · clear h
    go_enter Try.func26, Try.ntmps26
    go_wp2
    go_ret
    exact ⟨ret_bool (by first | rfl | (simp [*])), rfl⟩
theorem rtile_yes (m : Int) (w : World) (h0 : 0 ≤ m) (h1 : m < 512) : Calls Try.prog 30 #[.int .i64 m] w fun e w' => e = .returned (.bool true) ∧ w = w' := by
  go_enter Try.func30, Try.ntmps30
  go_wp2
  go_ret
  exact ⟨ret_bool (by first | rfl | (simp [*])), rfl⟩
theorem rtile_no (m : Int) (w : World) (h : ¬ (0 ≤ m ∧ m < 512)) : Calls Try.prog 30 #[.int .i64 m] w fun e w' => e = .returned (.bool false) ∧ w = w' := by
  by_cases h0 : 0 ≤ m
  · have h1 : ¬ m < 512 := fun h1 => h ⟨h0, h1⟩
    clear h
    go_enter Try.func30, Try.ntmps30
    go_wp2
    go_ret
    exact ⟨ret_bool (by first | rfl | (simp [*])), rfl⟩
  · clear h
    go_enter Try.func30, Try.ntmps30
    go_wp2
    go_ret
    exact ⟨ret_bool (by first | rfl | (simp [*])), rfl⟩
theorem rsid_yes (m : Int) (w : World) (h0 : 0 ≤ m) (h1 : m ≤ 38399) : Calls Try.prog 27 #[.int .i64 m] w fun e w' => e = .returned (.tuple #[.int .i64 (sid m), .int .i64 0]) ∧ w = w' := by
  go_enter Try.func27, Try.ntmps27
  go_wp2_with (go_at_call 26; refine (ris_yes _ _ h0 h1).mono ?_; rintro e w' ⟨rfl, rfl⟩)
  go_ret2
  exact ⟨rfl, rfl⟩
theorem rabs_any (x : Int) (w : World) (h0 : -1000000 ≤ x) (h1 : x ≤ 1000000) : Calls Try.prog 31 #[.int .i64 x] w fun e w' => e = .returned (.int .i64 (absI x)) ∧ w = w' := by
  by_cases h : x < 0
  · have e : absI x = -x := if_pos h
    rw [e]
    clear e
    go_enter Try.func31, Try.ntmps31
    go_wp2
    go_ret
    exact ⟨rfl, rfl⟩
  · have e : absI x = x := if_neg h
    rw [e]
    clear e
    go_enter Try.func31, Try.ntmps31
    go_wp2
    go_ret
    exact ⟨rfl, rfl⟩

set_option maxHeartbeats 1000000 in
theorem rhour_yes (c m : Int) (w : World) (h0 : 0 ≤ c) (h1 : c < 32) (m0 : 0 ≤ m) (m1 : m ≤ 38399) : Calls Try.prog 12 #[.int .i64 c, .int .i64 m] w fun e w' => e = .returned (.tuple #[.int .i64 (hourF c m), .int .i64 0]) ∧ w = w' := by
  obtain ⟨s0, s1⟩ := sid_bd m
  have hs := fun w => rsid_yes m w m0 m1
  have hi := fun w => ris_yes m w m0 m1
  have HF := hid (show ∀ x, -2880 ≤ x → x ≤ 2879 → (x + 2880) % 5760 = (sid m - 180 * c - 90 + 2880) % 5760 → hourF c m = x from fun x a b e => by unfold hourF; omega)
  obtain ⟨z, hz⟩ : ∃ z, hourF c m = z := ⟨_, rfl⟩
  rw [hz] at HF ⊢
  clear hz
  generalize sid m = s at *
  have HS := hid hs
  have HI := hid hi
  clear hs hi
  have c1 : ¬ c < 0 := by omega
  have c2 : ¬ 31 < c := by omega
  go_enter Try.func12, Try.ntmps12
  go_wp2_with (first | (go_at_call 26; refine (HI.out _).mono ?_; rintro e w' ⟨rfl, rfl⟩) | (go_at_call 27; refine (HS.out _).mono ?_; rintro e w' ⟨rfl, rfl⟩))
  go_loopw [8] (fun h wr => wr = w ∧ ∃ x : Int, h = .int .i64 x ∧ -5670 ≤ x ∧ x ≤ 5669 ∧ (x + 2880) % 5760 = (s - 180 * c - 90 + 2880) % 5760) (fun h _ => (10000 - intOf h).toNat)
  case atStart => exact ⟨rfl, _, rfl, by omega, by omega, rfl⟩
  case round =>
    obtain ⟨rfl, x, rfl, x0, x1, hx⟩ := hrel
    have HX := hid hx
    clear hx
    by_cases hlt : x < -2880
    · go_wp2
      go_roundw
      case rel => exact ⟨(by first | trivial | rfl), _, rfl, by omega, by omega, by have := HX.out; omega⟩
      case measure => simp only [intOf]; omega
    · go_wp2
      obtain ⟨wo, rfl⟩ : ∃ wo : World, wo = wr := ⟨_, rfl⟩
      go_loopw [8] (fun h wr => wr = wo ∧ ∃ x : Int, h = .int .i64 x ∧ -2880 ≤ x ∧ x ≤ 5669 ∧ (x + 2880) % 5760 = (s - 180 * c - 90 + 2880) % 5760) (fun h _ => (10000 + intOf h).toNat)
      case atStart => exact ⟨rfl, _, rfl, by omega, by omega, HX.out⟩
      case round =>
        obtain ⟨rfl, y, rfl, y0, y1, hy⟩ := hrel
        have HY := hid hy
        clear hy
        by_cases hgt : 2879 < y
        · go_wp2
          go_roundw
          case rel => exact ⟨(by first | trivial | rfl), _, rfl, by omega, by omega, by have := HY.out; omega⟩
          case measure => simp only [intOf]; omega
        · go_wp2
          go_ret2
          rw [HF.out y (by omega) (by omega) HY.out]
          exact ⟨rfl, rfl⟩
theorem rhour_no (c m : Int) (w : World) (h : ¬ ((0 ≤ c ∧ c < 32) ∧ 0 ≤ m ∧ m ≤ 38399)) : Calls Try.prog 12 #[.int .i64 c, .int .i64 m] w fun e w' => e = .returned (.tuple #[.int .i64 0, .int .i64 1]) ∧ w = w' := by
  by_cases c1 : c < 0
  · clear h
    go_enter Try.func12, Try.ntmps12
    go_wp2
    go_ret2
    exact ⟨rfl, rfl⟩
  · by_cases c2 : 31 < c
    · clear h
      go_enter Try.func12, Try.ntmps12
      go_wp2
      go_ret2
      exact ⟨rfl, rfl⟩
    · have HM := hid (show ¬ (0 ≤ m ∧ m ≤ 38399) from fun hm => h ⟨⟨by omega, by omega⟩, hm⟩)
      clear h
      go_enter Try.func12, Try.ntmps12
      go_wp2_with (go_at_call 26; refine (ris_no _ _ HM.out).mono ?_; rintro e w' ⟨rfl, rfl⟩)
      go_ret2
      exact ⟨rfl, rfl⟩
set_option maxHeartbeats 1000000 in
theorem rheight_yes (s t m : Int) (w : World) (h : 0 ≤ s ∧ s < 16 ∧ 0 ≤ t ∧ t < 512) (m0 : 0 ≤ m) (m1 : m ≤ 38399) : Calls Try.prog 14 #[.int .i64 s, .int .i64 t, .int .i64 m] w fun e w' => e = .returned (.tuple #[.int .i64 (heightF s t m), .int .i64 0]) ∧ w = w' := by
  obtain ⟨a, b, c, d⟩ := h
  obtain ⟨q, hq⟩ : ∃ q, hourF (t % 32) m = q := ⟨_, rfl⟩
  have hb := hourF_bd (t % 32) m
  have hh := fun w => rhour_yes (t % 32) m w (by omega) (by omega) m0 m1
  unfold heightF
  rw [hq] at hb hh ⊢
  clear hq
  obtain ⟨b0, b1⟩ := hb
  have HH := hid hh
  clear hh
  have HA1 := hid (fun w => rabs_any q w (by omega) (by omega))
  have HA2 := hid (fun w => rabs_any (t / 32 - s) w (by omega) (by omega))
  have HI := hid (fun w => ris_yes m w m0 m1)
  have HT := hid (fun w => rtile_yes t w c d)
  have z1 : 0 ≤ absI q ∧ absI q ≤ 2880 := by have := absI_bd q; omega
  have z2 : 0 ≤ absI (t / 32 - s) ∧ absI (t / 32 - s) ≤ 16 := by have := absI_bd (t / 32 - s); omega
  generalize absI q = u at *
  generalize absI (t / 32 - s) = v at *
  obtain ⟨z3, z4⟩ := z1
  obtain ⟨z5, z6⟩ := z2
  have c1 : ¬ s < 0 := by omega
  have c2 : ¬ 15 < s := by omega
  go_enter Try.func14, Try.ntmps14
  go_wp2_with (first | (go_at_call 30; refine (HT.out _).mono ?_; rintro e w' ⟨rfl, rfl⟩) | (go_at_call 26; refine (HI.out _).mono ?_; rintro e w' ⟨rfl, rfl⟩) | (go_at_call 12; refine (HH.out _).mono ?_; rintro e w' ⟨rfl, rfl⟩))
  refine (HA2.out _).mono ?_
  rintro e w' ⟨rfl, rfl⟩
  go_wp2_with fail
  refine (HA1.out _).mono ?_
  rintro e w' ⟨rfl, rfl⟩
  go_wp2_with fail
  go_ret2
  exact ⟨rfl, rfl⟩
theorem rheight_no (s t m : Int) (w : World) (h : ¬ ((0 ≤ s ∧ s < 16 ∧ 0 ≤ t ∧ t < 512) ∧ 0 ≤ m ∧ m ≤ 38399)) : Calls Try.prog 14 #[.int .i64 s, .int .i64 t, .int .i64 m] w fun e w' => e = .returned (.tuple #[.int .i64 0, .int .i64 1]) ∧ w = w' := by
  by_cases c1 : s < 0
  · clear h
    go_enter Try.func14, Try.ntmps14
    go_wp2
    go_ret2
    exact ⟨rfl, rfl⟩
  · by_cases c2 : 15 < s
    · clear h
      go_enter Try.func14, Try.ntmps14
      go_wp2
      go_ret2
      exact ⟨rfl, rfl⟩
    · by_cases ht : 0 ≤ t ∧ t < 512
      · have HT := hid (fun w => rtile_yes t w ht.1 ht.2)
        have HM := hid (show ¬ (0 ≤ m ∧ m ≤ 38399) from fun hm => h ⟨⟨by omega, by omega, ht.1, ht.2⟩, hm⟩)
        clear h ht
        go_enter Try.func14, Try.ntmps14
        go_wp2_with (first | (go_at_call 30; refine (HT.out _).mono ?_; rintro e w' ⟨rfl, rfl⟩) | (go_at_call 26; refine (ris_no _ _ HM.out).mono ?_; rintro e w' ⟨rfl, rfl⟩))
        go_ret2
        exact ⟨rfl, rfl⟩
      · have HT := hid (fun w => rtile_no t w ht)
        clear h ht
        go_enter Try.func14, Try.ntmps14
        go_wp2_with (first | (go_at_call 30; refine (HT.out _).mono ?_; rintro e w' ⟨rfl, rfl⟩))
        go_ret2
        exact ⟨rfl, rfl⟩
theorem rair_yes (h : Int) (w : World) (h0 : 100 ≤ h) (h1 : h ≤ 900) : Calls Try.prog 16 #[.int .i64 h] w fun e w' => e = .returned (.tuple #[.int .i64 (900000 / h), .int .i64 0]) ∧ w = w' := by
  have h2 : ¬ 900 < h := by omega
  have h3 : ¬ h < 100 := by omega
  go_enter Try.func16, Try.ntmps16
  go_wp2
  go_ret2
  exact ⟨rfl, rfl⟩
theorem rair_high (h : Int) (w : World) (h0 : 900 < h) : Calls Try.prog 16 #[.int .i64 h] w fun e w' => e = .returned (.tuple #[.int .i64 0, .int .i64 1]) ∧ w = w' := by
  go_enter Try.func16, Try.ntmps16
  go_wp2
  go_ret2
  exact ⟨rfl, rfl⟩
theorem rair_low (h : Int) (w : World) (h0 : h < 100) : Calls Try.prog 16 #[.int .i64 h] w fun e w' => e = .returned (.tuple #[.int .i64 0, .int .i64 19]) ∧ w = w' := by
  have h2 : ¬ 900 < h := by omega
  go_enter Try.func16, Try.ntmps16
  go_wp2
  go_ret2
  exact ⟨rfl, rfl⟩
end Go.Proofs.Ytgelhndjdngdnaa
