/- weather: Background -/
import Derived.Test.YtbkheiilcfhfpaaDoorWeaBase
namespace Go.Proofs.YtbkheiilcfhfpaaDoor
open Go.RowKit

def awayF (t c : Int) : Int := max (t % 32 - c) (c - t % 32)
def bgF (n t : Int) : Int := brightF n * (16 - min (awayF t (n % 32)) (32 - awayF t (n % 32))) / 1600
def nightB (n : Int) : Bool := inR n 0 399
def tileB (t : Int) : Bool := inR t 0 511
theorem bg_no1 (n t : Int) (w : World) (h : ¬ (0 ≤ n ∧ n ≤ 399)) : Calls Tryd.prog 12 #[.int .i64 n, .int .i64 t] w fun e w' => e = .returned (.tuple #[.int .i64 0, .int .i64 1]) ∧ w = w' := by
  have H := hid (fun w => moon_no n w h)
  clear h
  go_enter Tryd.func12, Tryd.ntmps12
  go_wp2_with fail
  refine (H.out _).mono ?_
  rintro e w' ⟨rfl, rfl⟩
  go_wp2_with fail
  go_ret2
  exact ⟨rfl, rfl⟩
theorem bg_no2 (n t : Int) (w : World) (h : 0 ≤ n ∧ n ≤ 399) (ht : ¬ (0 ≤ t ∧ t ≤ 511)) : Calls Tryd.prog 12 #[.int .i64 n, .int .i64 t] w fun e w' => e = .returned (.tuple #[.int .i64 0, .int .i64 1]) ∧ w = w' := by
  have H := hid (fun w => moon_yes n w h)
  have H2 := hid (fun w => within_is (n := t) (lo := 0) (hi := 511) (r := false) (decide_eq_false ht) w)
  clear h ht
  go_enter Tryd.func12, Tryd.ntmps12
  go_wp2_with fail
  refine (H.out _).mono ?_
  rintro e w' ⟨rfl, rfl⟩
  go_wp2_with fail
  refine (H2.out _).mono ?_
  rintro e w' ⟨rfl, rfl⟩
  go_wp2_with fail
  go_ret2
  exact ⟨rfl, rfl⟩
set_option maxHeartbeats 1000000 in
theorem bg_yes (n t : Int) (w : World) (h : 0 ≤ n ∧ n ≤ 399) (ht : 0 ≤ t ∧ t ≤ 511) : Calls Tryd.prog 12 #[.int .i64 n, .int .i64 t] w fun e w' => e = .returned (.tuple #[.int .i64 (bgF n t), .int .i64 0]) ∧ w = w' := by
  have H := hid (fun w => moon_yes n w h)
  have H2 := hid (fun w => within_is (n := t) (lo := 0) (hi := 511) (r := true) (decide_eq_true ht) w)
  obtain ⟨t1, t2⟩ := ht
  obtain ⟨b1, b2⟩ := bright_bd n
  have c1 : 0 ≤ n % 32 := by omega
  have c2 : n % 32 ≤ 31 := by omega
  have HR := hid (show bgF n t = brightF n * (16 - min (awayF t (n % 32)) (32 - awayF t (n % 32))) / 1600 from rfl)
  generalize bgF n t = R at *
  generalize brightF n = B at *
  generalize n % 32 = c at *
  clear h
  have p1 : 0 ≤ t % 32 := by omega
  have p2 : t % 32 ≤ 31 := by omega
  by_cases q0 : t % 32 = c
  · subst q0
    have e1 : awayF t (t % 32) = 0 := by unfold awayF; omega
    rw [e1] at HR
    have hm : min (0 : Int) (32 - 0) = 0 := by omega
    rw [hm] at HR
    clear e1 hm
    rw [HR.out]
    clear HR
    (go_enter Tryd.func12, Tryd.ntmps12  ;go_wp2_with fail  ;refine (H.out _).mono ?_  ;rintro e w' ⟨rfl, rfl⟩  ;go_wp2_with fail  ;refine (H2.out _).mono ?_  ;rintro e w' ⟨rfl, rfl⟩  ;go_wp2_with fail)
    all_goals (go_ret2; exact ⟨by first | rfl | simp, rfl⟩)
  by_cases q1 : t % 32 - c < c - t % 32
  · have e1 : awayF t c = c - t % 32 := by unfold awayF; omega
    rw [e1] at HR
    clear e1
    by_cases q2 : c - t % 32 ≤ 32 - (c - t % 32)
    · have hm : min (c - t % 32) (32 - (c - t % 32)) = c - t % 32 := by omega
      rw [hm] at HR
      have k1 : 0 ≤ 16 - (c - t % 32) := by omega
      have k2 : 16 - (c - t % 32) ≤ 16 := by omega
      have k3 : 0 ≤ B * (16 - (c - t % 32)) := Int.mul_nonneg b1 k1
      have k4 : B * (16 - (c - t % 32)) ≤ 16000 := by have := Int.mul_le_mul b2 k2 k1 (by omega); omega
      obtain ⟨X, hX⟩ : ∃ X, B * (16 - (c - t % 32)) = X := ⟨_, rfl⟩
      have kw : wrap64 (B * (16 - (c - t % 32))) = X := by rw [hX]; exact Go.IntWalk.wrap64_in X (by omega)
      rw [hX] at HR k3 k4
      clear hX
      have kd : wrap64 (X.tdiv 1600) = X / 1600 := by rw [Int.tdiv_eq_ediv_of_nonneg k3]; exact Go.IntWalk.wrap64_in _ (by omega)
      clear hm k1 k2
      rw [HR.out]
      clear HR
      (go_enter Tryd.func12, Tryd.ntmps12  ;go_wp2_with fail  ;refine (H.out _).mono ?_  ;rintro e w' ⟨rfl, rfl⟩  ;go_wp2_with fail  ;refine (H2.out _).mono ?_  ;rintro e w' ⟨rfl, rfl⟩  ;go_wp2_with fail)
      all_goals (go_ret2; exact ⟨rfl, rfl⟩)
    · have hm : min (c - t % 32) (32 - (c - t % 32)) = 32 - (c - t % 32) := by omega
      rw [hm] at HR
      have k1 : 0 ≤ 16 - (32 - (c - t % 32)) := by omega
      have k2 : 16 - (32 - (c - t % 32)) ≤ 16 := by omega
      have k3 : 0 ≤ B * (16 - (32 - (c - t % 32))) := Int.mul_nonneg b1 k1
      have k4 : B * (16 - (32 - (c - t % 32))) ≤ 16000 := by have := Int.mul_le_mul b2 k2 k1 (by omega); omega
      obtain ⟨X, hX⟩ : ∃ X, B * (16 - (32 - (c - t % 32))) = X := ⟨_, rfl⟩
      have kw : wrap64 (B * (16 - (32 - (c - t % 32)))) = X := by rw [hX]; exact Go.IntWalk.wrap64_in X (by omega)
      rw [hX] at HR k3 k4
      clear hX
      have kd : wrap64 (X.tdiv 1600) = X / 1600 := by rw [Int.tdiv_eq_ediv_of_nonneg k3]; exact Go.IntWalk.wrap64_in _ (by omega)
      clear hm k1 k2
      rw [HR.out]
      clear HR
      (go_enter Tryd.func12, Tryd.ntmps12  ;go_wp2_with fail  ;refine (H.out _).mono ?_  ;rintro e w' ⟨rfl, rfl⟩  ;go_wp2_with fail  ;refine (H2.out _).mono ?_  ;rintro e w' ⟨rfl, rfl⟩  ;go_wp2_with fail)
      all_goals (go_ret2; exact ⟨rfl, rfl⟩)
  · have e1 : awayF t c = t % 32 - c := by unfold awayF; omega
    rw [e1] at HR
    clear e1
    by_cases q2 : t % 32 - c ≤ 32 - (t % 32 - c)
    · have hm : min (t % 32 - c) (32 - (t % 32 - c)) = t % 32 - c := by omega
      rw [hm] at HR
      have k1 : 0 ≤ 16 - (t % 32 - c) := by omega
      have k2 : 16 - (t % 32 - c) ≤ 16 := by omega
      have k3 : 0 ≤ B * (16 - (t % 32 - c)) := Int.mul_nonneg b1 k1
      have k4 : B * (16 - (t % 32 - c)) ≤ 16000 := by have := Int.mul_le_mul b2 k2 k1 (by omega); omega
      obtain ⟨X, hX⟩ : ∃ X, B * (16 - (t % 32 - c)) = X := ⟨_, rfl⟩
      have kw : wrap64 (B * (16 - (t % 32 - c))) = X := by rw [hX]; exact Go.IntWalk.wrap64_in X (by omega)
      rw [hX] at HR k3 k4
      clear hX
      have kd : wrap64 (X.tdiv 1600) = X / 1600 := by rw [Int.tdiv_eq_ediv_of_nonneg k3]; exact Go.IntWalk.wrap64_in _ (by omega)
      clear hm k1 k2
      rw [HR.out]
      clear HR
      (go_enter Tryd.func12, Tryd.ntmps12  ;go_wp2_with fail  ;refine (H.out _).mono ?_  ;rintro e w' ⟨rfl, rfl⟩  ;go_wp2_with fail  ;refine (H2.out _).mono ?_  ;rintro e w' ⟨rfl, rfl⟩  ;go_wp2_with fail)
      all_goals (go_ret2; exact ⟨rfl, rfl⟩)
    · have hm : min (t % 32 - c) (32 - (t % 32 - c)) = 32 - (t % 32 - c) := by omega
      rw [hm] at HR
      have k1 : 0 ≤ 16 - (32 - (t % 32 - c)) := by omega
      have k2 : 16 - (32 - (t % 32 - c)) ≤ 16 := by omega
      have k3 : 0 ≤ B * (16 - (32 - (t % 32 - c))) := Int.mul_nonneg b1 k1
      have k4 : B * (16 - (32 - (t % 32 - c))) ≤ 16000 := by have := Int.mul_le_mul b2 k2 k1 (by omega); omega
      obtain ⟨X, hX⟩ : ∃ X, B * (16 - (32 - (t % 32 - c))) = X := ⟨_, rfl⟩
      have kw : wrap64 (B * (16 - (32 - (t % 32 - c)))) = X := by rw [hX]; exact Go.IntWalk.wrap64_in X (by omega)
      rw [hX] at HR k3 k4
      clear hX
      have kd : wrap64 (X.tdiv 1600) = X / 1600 := by rw [Int.tdiv_eq_ediv_of_nonneg k3]; exact Go.IntWalk.wrap64_in _ (by omega)
      clear hm k1 k2
      rw [HR.out]
      clear HR
      (go_enter Tryd.func12, Tryd.ntmps12  ;go_wp2_with fail  ;refine (H.out _).mono ?_  ;rintro e w' ⟨rfl, rfl⟩  ;go_wp2_with fail  ;refine (H2.out _).mono ?_  ;rintro e w' ⟨rfl, rfl⟩  ;go_wp2_with fail)
      all_goals (go_ret2; exact ⟨rfl, rfl⟩)
end Go.Proofs.YtbkheiilcfhfpaaDoor
