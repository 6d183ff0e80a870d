/- airmass: hour angles, heights, the airmass -/
import Derived.Test.YtgelhndjdngdnaaCalBase
namespace Go.Proofs.Ytgelhndjdngdnaa
open Go.RowKit

def absI (x : Int) : Int := if x < 0 then -x else x
theorem absI_bd (x : Int) : (0 ≤ x ∧ absI x = x) ∨ (x < 0 ∧ absI x = -x) := by unfold absI; split <;> omega
def hourF (c m : Int) : Int := (sid m - 180 * c - 90 + 2880) % 5760 - 2880
theorem hourF_bd (c m : Int) : -2880 ≤ hourF c m ∧ hourF c m ≤ 2879 := by unfold hourF; omega
def heightF (s t m : Int) : Int := 900 - 50 * absI (t / 32 - s) - 5 * absI (hourF (t % 32) m) / 16
def exB (s t : Int) : Bool := decide (0 ≤ s ∧ s < 16 ∧ 0 ≤ t ∧ t < 512)

theorem abs_any (x : Int) (w : World) (h0 : -1000000 ≤ x) (h1 : x ≤ 1000000) : Calls Try.prog 29 #[.int .i64 x] w fun e w' => e = .returned (.int .i64 (absI x)) ∧ w = w' := by
  by_cases h : x < 0
  · have e : absI x = -x := if_pos h
    rw [e]
    clear e
    go_enter Try.func29, Try.ntmps29
    go_wp2
    go_ret
    exact ⟨rfl, rfl⟩
  · have e : absI x = x := if_neg h
    rw [e]
    clear e
    go_enter Try.func29, Try.ntmps29
    go_wp2
    go_ret
    exact ⟨rfl, rfl⟩

theorem exists_yes (s t : Int) (w : World) (h : 0 ≤ s ∧ s < 16 ∧ 0 ≤ t ∧ t < 512) : Calls Try.prog 28 #[.int .i64 s, .int .i64 t] w fun e w' => e = .returned (.bool true) ∧ w = w' := by
  obtain ⟨a, b, c, d⟩ := h
  go_enter Try.func28, Try.ntmps28
  go_wp2
  go_ret
  exact ⟨ret_bool (by first | rfl | (simp [*])), rfl⟩
theorem exists_no (s t : Int) (w : World) (h : ¬ (0 ≤ s ∧ s < 16 ∧ 0 ≤ t ∧ t < 512)) : Calls Try.prog 28 #[.int .i64 s, .int .i64 t] w fun e w' => e = .returned (.bool false) ∧ w = w' := by
  have H := hid h
  clear h
  by_cases a : 0 ≤ s
  · by_cases b : s < 16
    · by_cases c : 0 ≤ t
      · have d : ¬ t < 512 := fun d => H.out ⟨a, b, c, d⟩
        go_enter Try.func28, Try.ntmps28
        go_wp2
        go_ret
        exact ⟨ret_bool (by first | rfl | (simp [*] <;> omega)), rfl⟩
      · go_enter Try.func28, Try.ntmps28
        go_wp2
        go_ret
        exact ⟨ret_bool (by first | rfl | (simp [*])), rfl⟩
    · go_enter Try.func28, Try.ntmps28
      go_wp2
      go_ret
      exact ⟨ret_bool (by first | rfl | (simp [*])), rfl⟩
  · go_enter Try.func28, Try.ntmps28
    go_wp2
    go_ret
    exact ⟨ret_bool (by first | rfl | (simp [*])), rfl⟩

theorem hour_yes (c m : Int) (w : World) (h0 : 0 ≤ c) (h1 : c < 32) (m0 : 0 ≤ m) (m1 : m ≤ 38399) : Calls Try.prog 11 #[.int .i64 c, .int .i64 m] w fun e w' => e = .returned (.tuple #[.int .i64 (hourF c m), .int .i64 0]) ∧ w = w' := by
  obtain ⟨s0, s1⟩ := sid_bd m
  have hs := fun w => sidereal_yes m w m0 m1
  unfold hourF
  generalize sid m = s at *
  have HS := hid hs
  clear hs
  go_enter Try.func11, Try.ntmps11
  go_wp2_with (go_at_call 21; refine (HS.out _).mono ?_; rintro e w' ⟨rfl, rfl⟩)
  go_ret2
  exact ⟨rfl, rfl⟩
theorem hour_no (c m : Int) (w : World) (h : ¬ ((0 ≤ c ∧ c < 32) ∧ 0 ≤ m ∧ m ≤ 38399)) : Calls Try.prog 11 #[.int .i64 c, .int .i64 m] w fun e w' => e = .returned (.tuple #[.int .i64 0, .int .i64 1]) ∧ w = w' := by
  by_cases hm : 0 ≤ m ∧ m ≤ 38399
  · have hs := fun w => sidereal_yes m w hm.1 hm.2
    generalize sid m = s at *
    have HS := hid hs
    have HC := hid (show ¬ (0 ≤ c ∧ c < 32) from fun hc => h ⟨hc, hm⟩)
    clear hs h hm
    by_cases h0 : 0 ≤ c
    · have h1 : ¬ c < 32 := fun h1 => HC.out ⟨h0, h1⟩
      go_enter Try.func11, Try.ntmps11
      go_wp2_with (go_at_call 21; refine (HS.out _).mono ?_; rintro e w' ⟨rfl, rfl⟩)
      go_ret2
      exact ⟨rfl, rfl⟩
    · go_enter Try.func11, Try.ntmps11
      go_wp2_with (go_at_call 21; refine (HS.out _).mono ?_; rintro e w' ⟨rfl, rfl⟩)
      go_ret2
      exact ⟨rfl, rfl⟩
  · have HM := hid hm
    clear hm h
    go_enter Try.func11, Try.ntmps11
    go_wp2_with (go_at_call 21; refine (sidereal_no _ _ HM.out).mono ?_; rintro e w' ⟨rfl, rfl⟩)
    go_ret2
    exact ⟨rfl, rfl⟩

theorem height_yes (s t m : Int) (w : World) (h : 0 ≤ s ∧ s < 16 ∧ 0 ≤ t ∧ t < 512) (m0 : 0 ≤ m) (m1 : m ≤ 38399) : Calls Try.prog 13 #[.int .i64 s, .int .i64 t, .int .i64 m] w fun e w' => e = .returned (.tuple #[.int .i64 (heightF s t m), .int .i64 0]) ∧ w = w' := by
  have He := hid (fun w => exists_yes s t w h)
  obtain ⟨a, b, c, d⟩ := h
  obtain ⟨q, hq⟩ : ∃ q, hourF (t % 32) m = q := ⟨_, rfl⟩
  have hb := hourF_bd (t % 32) m
  have hh := fun w => hour_yes (t % 32) m w (by omega) (by omega) m0 m1
  unfold heightF
  rw [hq] at hb hh ⊢
  clear hq
  obtain ⟨b0, b1⟩ := hb
  have HH := hid hh
  clear hh
  have HA1 := hid (fun w => abs_any q w (by omega) (by omega))
  have HA2 := hid (fun w => abs_any (t / 32 - s) w (by omega) (by omega))
  have z1 : 0 ≤ absI q ∧ absI q ≤ 2880 := by have := absI_bd q; omega
  have z2 : 0 ≤ absI (t / 32 - s) ∧ absI (t / 32 - s) ≤ 16 := by have := absI_bd (t / 32 - s); omega
  generalize absI q = u at *
  generalize absI (t / 32 - s) = v at *
  obtain ⟨z3, z4⟩ := z1
  obtain ⟨z5, z6⟩ := z2
  go_enter Try.func13, Try.ntmps13
  go_wp2_with fail
  refine (He.out _).mono ?_
  rintro e w' ⟨rfl, rfl⟩
  go_wp2_with fail
  refine (HH.out _).mono ?_
  rintro e w' ⟨rfl, rfl⟩
  go_wp2_with fail
  refine (HA2.out _).mono ?_
  rintro e w' ⟨rfl, rfl⟩
  go_wp2_with fail
  refine (HA1.out _).mono ?_
  rintro e w' ⟨rfl, rfl⟩
  go_wp2_with fail
  go_ret2
  exact ⟨rfl, rfl⟩
theorem height_no (s t m : Int) (w : World) (h : ¬ ((0 ≤ s ∧ s < 16 ∧ 0 ≤ t ∧ t < 512) ∧ 0 ≤ m ∧ m ≤ 38399)) : Calls Try.prog 13 #[.int .i64 s, .int .i64 t, .int .i64 m] w fun e w' => e = .returned (.tuple #[.int .i64 0, .int .i64 1]) ∧ w = w' := by
  by_cases he : 0 ≤ s ∧ s < 16 ∧ 0 ≤ t ∧ t < 512
  · have hm : ¬ (0 ≤ m ∧ m ≤ 38399) := fun hm => h ⟨he, hm⟩
    have He := hid (fun w => exists_yes s t w he)
    have HH := hid (fun w => hour_no (t % 32) m w (fun hh => hm hh.2))
    have h2 : 0 ≤ t := he.2.2.1
    clear h hm he
    go_enter Try.func13, Try.ntmps13
    go_wp2_with (first | (go_at_call 28; refine (He.out _).mono ?_; rintro e w' ⟨rfl, rfl⟩) | (go_at_call 11; refine (HH.out _).mono ?_; rintro e w' ⟨rfl, rfl⟩))
    go_ret2
    exact ⟨rfl, rfl⟩
  · have He := hid (fun w => exists_no s t w he)
    clear h he
    go_enter Try.func13, Try.ntmps13
    go_wp2_with (first | (go_at_call 28; refine (He.out _).mono ?_; rintro e w' ⟨rfl, rfl⟩))
    go_ret2
    exact ⟨rfl, rfl⟩

theorem air_yes (h : Int) (w : World) (h0 : 100 ≤ h) (h1 : h ≤ 900) : Calls Try.prog 15 #[.int .i64 h] w fun e w' => e = .returned (.tuple #[.int .i64 (900000 / h), .int .i64 0]) ∧ w = w' := by
  have h2 : ¬ 900 < h := by omega
  have h3 : ¬ h < 100 := by omega
  go_enter Try.func15, Try.ntmps15
  go_wp2
  go_ret2
  exact ⟨rfl, rfl⟩
theorem air_high (h : Int) (w : World) (h0 : 900 < h) : Calls Try.prog 15 #[.int .i64 h] w fun e w' => e = .returned (.tuple #[.int .i64 0, .int .i64 1]) ∧ w = w' := by
  go_enter Try.func15, Try.ntmps15
  go_wp2
  go_ret2
  exact ⟨rfl, rfl⟩
theorem air_low (h : Int) (w : World) (h0 : h < 100) : Calls Try.prog 15 #[.int .i64 h] w fun e w' => e = .returned (.tuple #[.int .i64 0, .int .i64 19]) ∧ w = w' := by
  have h2 : ¬ 900 < h := by omega
  go_enter Try.func15, Try.ntmps15
  go_wp2
  go_ret2
  exact ⟨rfl, rfl⟩
end Go.Proofs.Ytgelhndjdngdnaa
