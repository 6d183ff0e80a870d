/- weather: within, moment, Moon, Background -/
import Derived.Test.YtbkheiilcfhfpaaDoorProg
import Derived.Test.YtbkheiilcfhfpaaDoorLib2
import Derived.Test.YtbkheiilcfhfpaaDoorLibQ
import Derived.Laws.Rows
namespace Go.Proofs.YtbkheiilcfhfpaaDoor
open Go.RowKit

def inR (n lo hi : Int) : Bool := decide (lo ≤ n ∧ n ≤ hi)
theorem within_any (n lo hi : Int) (w : World) : Calls Tryd.prog 25 #[.int .i64 n, .int .i64 lo, .int .i64 hi] w fun e w' => e = .returned (.bool (inR n lo hi)) ∧ w = w' := by
  unfold inR
  by_cases h1 : lo ≤ n
  · by_cases h2 : n ≤ hi
    · rw [decide_eq_true ⟨h1, h2⟩]
      go_enter Tryd.func25, Tryd.ntmps25
      go_wp2_with fail
      go_ret
      exact ⟨ret_bool (by first | rfl | simp), rfl⟩
    · rw [decide_eq_false (fun h => h2 h.2)]
      go_enter Tryd.func25, Tryd.ntmps25
      go_wp2_with fail
      go_ret
      exact ⟨ret_bool (by first | rfl | (simp; done) | (simp; omega)), rfl⟩
  · rw [decide_eq_false (fun h => h1 h.1)]
    go_enter Tryd.func25, Tryd.ntmps25
    go_wp2_with fail
    go_ret
    exact ⟨ret_bool (by first | rfl | (simp; done) | (simp; omega)), rfl⟩
theorem within_is {n lo hi : Int} {r : Bool} (h : inR n lo hi = r) (w : World) : Calls Tryd.prog 25 #[.int .i64 n, .int .i64 lo, .int .i64 hi] w fun e w' => e = .returned (.bool r) ∧ w = w' := by
  subst h; exact within_any n lo hi w
def momB (m : Int) : Bool := inR m 0 38399
theorem moment_any (m : Int) (w : World) : Calls Tryd.prog 24 #[.int .i64 m] w fun e w' => e = .returned (.bool (momB m)) ∧ w = w' := by
  unfold momB
  have H := hid (fun w => within_any m 0 38399 w)
  generalize inR m 0 38399 = r at *
  go_enter Tryd.func24, Tryd.ntmps24
  go_wp2_with fail
  refine (H.out _).mono ?_
  rintro e w' ⟨rfl, rfl⟩
  go_wp2_with fail
  go_ret
  exact ⟨rfl, rfl⟩
/-- the brightness of the moon -/
def brightF (n : Int) : Int := 1000 * min (n % 30) (30 - n % 30) / 15
theorem bright_bd (n : Int) : 0 ≤ brightF n ∧ brightF n ≤ 1000 := by unfold brightF; omega
set_option maxHeartbeats 1000000 in
theorem moon_yes (n : Int) (w : World) (h : 0 ≤ n ∧ n ≤ 399) : Calls Tryd.prog 11 #[.int .i64 n] w fun e w' => e = .returned (.tuple #[.int .i64 (brightF n), .int .i64 (n % 32), .int .i64 0]) ∧ w = w' := by
  have H := hid (fun w => within_is (n := n) (lo := 0) (hi := 399) (r := true) (decide_eq_true h) w)
  obtain ⟨h1, h2⟩ := h
  have HB := hid (show brightF n = 1000 * min (n % 30) (30 - n % 30) / 15 from rfl)
  generalize brightF n = B at *
  by_cases h15 : n % 30 ≤ 30 - n % 30
  · have hm : min (n % 30) (30 - n % 30) = n % 30 := by omega
    rw [HB.out, hm]
    clear HB hm
    go_enter Tryd.func11, Tryd.ntmps11
    go_wp2_with fail
    refine (H.out _).mono ?_
    rintro e w' ⟨rfl, rfl⟩
    go_wp2_with fail
    go_ret3
    exact ⟨rfl, rfl⟩
  · have hm : min (n % 30) (30 - n % 30) = 30 - n % 30 := by omega
    rw [HB.out, hm]
    clear HB hm
    go_enter Tryd.func11, Tryd.ntmps11
    go_wp2_with fail
    refine (H.out _).mono ?_
    rintro e w' ⟨rfl, rfl⟩
    go_wp2_with fail
    go_ret3
    exact ⟨rfl, rfl⟩
theorem moon_no (n : Int) (w : World) (h : ¬ (0 ≤ n ∧ n ≤ 399)) : Calls Tryd.prog 11 #[.int .i64 n] w fun e w' => e = .returned (.tuple #[.int .i64 0, .int .i64 0, .int .i64 1]) ∧ w = w' := by
  have H := hid (fun w => within_is (n := n) (lo := 0) (hi := 399) (r := false) (decide_eq_false h) w)
  clear h
  go_enter Tryd.func11, Tryd.ntmps11
  go_wp2_with fail
  refine (H.out _).mono ?_
  rintro e w' ⟨rfl, rfl⟩
  go_wp2_with fail
  go_ret3
  exact ⟨rfl, rfl⟩
end Go.Proofs.YtbkheiilcfhfpaaDoor
