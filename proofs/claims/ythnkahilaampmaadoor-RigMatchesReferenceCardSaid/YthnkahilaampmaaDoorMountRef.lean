/- mount: the reference's small functions -/
import Derived.Test.YthnkahilaampmaaDoorMountMove
import Derived.Test.YthnkahilaampmaaDoorLib2
namespace Go.Proofs.YthnkahilaampmaaDoor
open Go.RowKit

theorem ris_any (a : Int) (w : World) : Calls Tryd.prog 29 #[.int .i64 a] w fun e w' => e = .returned (.bool (isB a)) ∧ w = w' := by
  go_enter Tryd.func29, Tryd.ntmps29
  go_wp2
  all_goals go_ret
  all_goals exact ⟨ret_bool (by unfold isB; first | (simp; omega) | (simp [*])), rfl⟩

theorem rcolumn_any (a : Int) (h0 : -48 ≤ a) (h1 : a ≤ 48) (w : World) : Calls Tryd.prog 40 #[.int .i64 a] w fun e w' => e = .returned (.int .i64 ((a + 64) % 32)) ∧ w = w' := by
  go_enter Tryd.func40, Tryd.ntmps40
  go_wp2
  go_ret
  exact ⟨rfl, rfl⟩

theorem rdist_any (a b : Int) (ha : -1000 ≤ a) (hb : -1000 ≤ b) (ha' : a ≤ 1000) (hb' : b ≤ 1000) (w : World) : Calls Tryd.prog 30 #[.int .i64 a, .int .i64 b] w fun e w' => e = .returned (.int .i64 (max (a-b) (b-a))) ∧ w = w' := by
  by_cases h : b < a
  · go_enter Tryd.func30, Tryd.ntmps30
    go_wp2
    go_ret
    exact ⟨ret_int (by omega), rfl⟩
  · go_enter Tryd.func30, Tryd.ntmps30
    go_wp2
    go_ret
    exact ⟨ret_int (by omega), rfl⟩

/-- the reference's positions of a column, as its loop finds them -/
def rreachTo (c : Int) : Nat → List Int
  | 0 => []
  | k+1 => rreachTo c k ++ if (-48 + (k : Int) + 64) % 32 = c then [-48 + (k : Int)] else []
theorem rreach_eq (c : Int) (h0 : 0 ≤ c) (h1 : c < 32) : rreachTo c 97 = reachL c := by
  have : ∀ n : Nat, n < 32 → rreachTo (n : Int) 97 = reachL (n : Int) := by decide +kernel
  have h := this c.toNat (by omega)
  rwa [show ((c.toNat : Nat) : Int) = c by omega] at h
theorem rreachTo_len (c : Int) (k : Nat) : (rreachTo c k).length ≤ k := by
  induction k with
  | zero => simp [rreachTo]
  | succ k ih => simp only [rreachTo]; split <;> simp <;> omega
theorem rreachTo_hit (c : Int) (k : Nat) (h : (-48 + (k : Int) + 64) % 32 = c) : rreachTo c (k+1) = rreachTo c k ++ [-48 + (k : Int)] := by
  simp [rreachTo, h]
theorem rreachTo_miss (c : Int) (k : Nat) (h : ¬ (-48 + (k : Int) + 64) % 32 = c) : rreachTo c (k+1) = rreachTo c k := by
  simp [rreachTo, h]

set_option maxHeartbeats 400000 in
theorem rreach_any (c : Int) (w : World) (h0 : 0 ≤ c) (h1 : c < 32) : Calls Tryd.prog 28 #[.int .i64 c] w fun e w' => ∃ v, e = .returned (.tuple #[v, .int .i64 0]) ∧ Mine w.heap.size w w' 3 v ((reachL c).map (Value.int .i64)) := by
  rw [← rreach_eq c h0 h1]
  have hn1 : ¬ c < 0 := by omega
  have hn2 : ¬ 31 < c := by omega
  go_enter Tryd.func28, Tryd.ntmps28
  go_wp2
  go_loopw [4, 5] (fun out at_ wr => ∃ k : Nat, k ≤ 97 ∧ at_ = .int .i64 (-48 + (k : Int)) ∧ Mine w.heap.size w wr 3 out ((rreachTo c k).map (Value.int .i64))) (fun _ at_ _ => (49 - intOf at_).toNat)
  case atStart => exact ⟨0, by omega, by simp, Mine.start (Below.refl _ _) (Nat.le_refl _)⟩
  case round =>
    obtain ⟨k, hk, rfl, hm⟩ := hrel
    by_cases hlt : -48 + (k : Int) ≤ 48
    · have HS := hid (show -48 + (k : Int) + 1 = -48 + ((k + 1 : Nat) : Int) by omega)
      have hb1 : -48 ≤ -48 + (k : Int) := by omega
      by_cases hi : (-48 + (k : Int) + 64) % 32 = c
      · have HI := hid (rreachTo_hit c k hi)
        have hkl := rreachTo_len c k
        go_wp2_with (first | (go_at_call 40; refine (rcolumn_any _ hb1 hlt _).mono ?_; rintro e w' ⟨rfl, rfl⟩) | (at_builtin; refine wpl_app1 rfl _ _ 46 rfl 3 _ _ Tryd.underlying46 Tryd.info3 rfl _ _ _ _ hm rfl _ rfl rfl (by unfold maxLen; simp; omega) (by simp; omega) ?_; intro g1 cap1 w1 hm1 hg1 hB1 hat1))
        go_roundw
        case rel => exact ⟨k + 1, by omega, by rw [HS.out], by rw [HI.out]; simpa using hm1⟩
        case measure => simp [intOf]; omega
      · have HI := hid (rreachTo_miss c k hi)
        go_wp2_with (first | (go_at_call 40; refine (rcolumn_any _ hb1 hlt _).mono ?_; rintro e w' ⟨rfl, rfl⟩))
        go_roundw
        case rel => exact ⟨k + 1, by omega, by rw [HS.out], by rw [HI.out]; exact hm⟩
        case measure => simp [intOf]; omega
    · obtain ⟨k', hk'⟩ : ∃ k', k = k' := ⟨_, rfl⟩
      have HK := hid (show k = 97 by omega)
      go_wp2
      go_ret2
      exact ⟨_, rfl, by have := HK.out; subst this; exact hm⟩
theorem rreach_no (c : Int) (w : World) (h : ¬ (0 ≤ c ∧ c < 32)) : Calls Tryd.prog 28 #[.int .i64 c] w fun e w' => e = .returned (.tuple #[.slice none 0 0, .int .i64 1]) ∧ w = w' := by
  by_cases h0 : c < 0
  · go_enter Tryd.func28, Tryd.ntmps28
    go_wp2
    go_ret2
    exact ⟨rfl, rfl⟩
  · have h2 : 31 < c := by omega
    go_enter Tryd.func28, Tryd.ntmps28
    go_wp2
    go_ret2
    exact ⟨rfl, rfl⟩
end Go.Proofs.YthnkahilaampmaaDoor
