import Derived.Test.YthnkahilaampmaaDoorProg
import Derived.Test.YthnkahilaampmaaDoorLib
namespace Go.Proofs.YthnkahilaampmaaDoor
open Go.RowKit

def isB (a : Int) : Bool := decide (-48 ≤ a ∧ a ≤ 48)
def colB (a : Int) : Bool := decide (0 ≤ a ∧ a < 32)

theorem is_any (a : Int) (w : World) : Calls Tryd.prog 31 #[.int .i64 a] w fun e w' => e = .returned (.bool (isB a)) ∧ w = w' := by
  go_enter Tryd.func31, Tryd.ntmps31
  go_wp2
  all_goals go_ret
  all_goals exact ⟨ret_bool (by unfold isB; first | (simp; omega) | (simp [*])), rfl⟩

theorem column_any (a : Int) (w : World) : Calls Tryd.prog 32 #[.int .i64 a] w fun e w' => e = .returned (.bool (colB a)) ∧ w = w' := by
  go_enter Tryd.func32, Tryd.ntmps32
  go_wp2
  all_goals go_ret
  all_goals exact ⟨ret_bool (by unfold colB; first | (simp; omega) | (simp [*])), rfl⟩

theorem dist_any (a b : Int) (ha : -1000 ≤ a) (hb : -1000 ≤ b) (ha' : a ≤ 1000) (hb' : b ≤ 1000) (w : World) : Calls Tryd.prog 36 #[.int .i64 a, .int .i64 b] w fun e w' => e = .returned (.int .i64 (max (a-b) (b-a))) ∧ w = w' := by
  go_enter Tryd.func36, Tryd.ntmps36
  go_wp2
  all_goals go_ret
  all_goals exact ⟨ret_int (by omega), rfl⟩

theorem Tryd.info3 : (Tryd.prog.info? 3).map (fun i => (i.zero, i.size, i.bytes)) = some (some (.int .i64 0), 1, 8) := by kernel_rfl

def reachTo (c : Int) : Nat → List Int
  | 0 => []
  | k+1 => reachTo c k ++ if isB (c - 64 + 32 * (k : Int)) then [c - 64 + 32 * (k : Int)] else []
def reachL (c : Int) : List Int := reachTo c 4

theorem reachTo_len (c : Int) (k : Nat) : (reachTo c k).length ≤ k := by
  induction k with
  | zero => simp [reachTo]
  | succ k ih => simp only [reachTo]; split <;> simp <;> omega

theorem reachTo_hit (c : Int) (k : Nat) (h : isB (c - 64 + 32 * (k : Int)) = true) : reachTo c (k+1) = reachTo c k ++ [c - 64 + 32 * (k : Int)] := by
  simp [reachTo, h]
theorem reachTo_miss (c : Int) (k : Nat) (h : isB (c - 64 + 32 * (k : Int)) = false) : reachTo c (k+1) = reachTo c k := by
  simp [reachTo, h]
theorem reachTo_end (c : Int) (k : Nat) (h1 : c < 32) (hk : k ≤ 4) (h : 48 < c - 64 + 32 * (k : Int)) : reachTo c k = reachL c := by
  unfold reachL
  have : k = 4 ∨ k = 3 := by omega
  rcases this with rfl | rfl
  · rfl
  · rw [reachTo_miss c 3 (by unfold isB; simp; omega)]

set_option maxHeartbeats 400000 in
theorem reach_any (c : Int) (w : World) (h0 : 0 ≤ c) (h1 : c < 32) : Calls Tryd.prog 35 #[.int .i64 c] w fun e w' => ∃ v, e = .returned (.tuple #[v, .int .i64 0]) ∧ Mine w.heap.size w w' 3 v ((reachL c).map (Value.int .i64)) := by
  have hc : colB c = true := by unfold colB; simp; omega
  go_enter Tryd.func35, Tryd.ntmps35
  go_wp2_with (go_at_call 32; refine (column_any _ _).mono ?_; rintro e w' ⟨rfl, rfl⟩)
  go_loopw [4, 5] (fun out at_ wr => ∃ k : Nat, k ≤ 4 ∧ at_ = .int .i64 (c - 64 + 32 * (k : Int)) ∧ Mine w.heap.size w wr 3 out ((reachTo c k).map (Value.int .i64))) (fun _ at_ _ => (c + 64 - intOf at_).toNat)
  case atStart => exact ⟨0, by omega, by simp, Mine.start (Below.refl _ _) (Nat.le_refl _)⟩
  case round =>
    obtain ⟨k, hk, rfl, hm⟩ := hrel
    by_cases hlt : c - 64 + 32 * (k : Int) ≤ 48
    · have HS := hid (show c - 64 + 32 * (k : Int) + 32 = c - 64 + 32 * ((k + 1 : Nat) : Int) by omega)
      cases hi : isB (c - 64 + 32 * (k : Int)) with
      | true =>
        have HI := hid (reachTo_hit c k hi)
        have hkl := reachTo_len c k
        go_wp2_with (first | (go_at_call 31; refine (is_any _ _).mono ?_; rintro e w' ⟨rfl, rfl⟩) | (at_builtin; refine wpl_app1 rfl _ _ 46 rfl 3 _ _ Tryd.underlying46 Tryd.info3 rfl _ _ _ _ hm rfl _ rfl rfl (by unfold maxLen; simp; omega) (by simp; omega) ?_; intro g1 cap1 w1 hm1 hg1 hB1 hat1))
        go_roundw
        case rel => exact ⟨k + 1, by omega, by rw [HS.out], by rw [HI.out]; simpa using hm1⟩
        case measure => simp [intOf]; omega
      | false =>
        have HI := hid (reachTo_miss c k hi)
        go_wp2_with (first | (go_at_call 31; refine (is_any _ _).mono ?_; rintro e w' ⟨rfl, rfl⟩))
        go_roundw
        case rel => exact ⟨k + 1, by omega, by rw [HS.out], by rw [HI.out]; exact hm⟩
        case measure => simp [intOf]; omega
    · have HE := hid (reachTo_end c k h1 hk (by omega))
      go_wp2
      go_ret2
      exact ⟨_, rfl, by rw [← HE.out]; exact hm⟩

theorem reach_no (c : Int) (w : World) (h : ¬ (0 ≤ c ∧ c < 32)) : Calls Tryd.prog 35 #[.int .i64 c] w fun e w' => e = .returned (.tuple #[.slice none 0 0, .int .i64 1]) ∧ w = w' := by
  have hc : colB c = false := by unfold colB; simp; omega
  go_enter Tryd.func35, Tryd.ntmps35
  go_wp2_with (go_at_call 32; refine (column_any _ _).mono ?_; rintro e w' ⟨rfl, rfl⟩)
  go_ret2
  exact ⟨rfl, rfl⟩
end Go.Proofs.YthnkahilaampmaaDoor
