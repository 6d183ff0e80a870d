/- airmass: the statements' helpers, the chapter's examples -/
import Derived.Test.YtgelhndjdngdnaaAirSpec
namespace Go.Proofs.Ytgelhndjdngdnaa
open Go.RowKit

theorem is_same (n : Int) (w : World) : Calls Try.prog 25 #[.int .i64 n, .int .i64 0, .int .i64 n] w fun e w' => e = .returned (.bool true) ∧ w = w' := by
  go_enter Try.func25, Try.ntmps25
  go_wp2
  go_ret
  exact ⟨rfl, rfl⟩
theorem hour_is (c m x : Int) (w : World) (h : hourV c m = x ∧ hourE c m = 0) : Calls Try.prog 23 #[.int .i64 c, .int .i64 m, .int .i64 x] w fun e w' => e = .returned (.bool true) ∧ w = w' := by
  have hh := fun w => hour_any c m w
  rw [h.1, h.2] at hh
  have HH := hid hh
  clear hh h
  go_enter Try.func23, Try.ntmps23
  go_wp2_with (first | (go_at_call 11; refine (HH.out _).mono ?_; rintro e w' ⟨rfl, rfl⟩) | (go_at_call 25; refine (is_same _ _).mono ?_; rintro e w' ⟨rfl, rfl⟩))
  go_ret
  exact ⟨rfl, rfl⟩
theorem height_is (s t m x : Int) (w : World) (h : heightV s t m = x ∧ heightE s t m = 0) : Calls Try.prog 24 #[.int .i64 s, .int .i64 t, .int .i64 m, .int .i64 x] w fun e w' => e = .returned (.bool true) ∧ w = w' := by
  have hh := fun w => height_any s t m w
  rw [h.1, h.2] at hh
  have HH := hid hh
  clear hh h
  go_enter Try.func24, Try.ntmps24
  go_wp2_with (first | (go_at_call 13; refine (HH.out _).mono ?_; rintro e w' ⟨rfl, rfl⟩) | (go_at_call 25; refine (is_same _ _).mono ?_; rintro e w' ⟨rfl, rfl⟩))
  go_ret
  exact ⟨rfl, rfl⟩
theorem labs_any (x : Int) (w : World) (h0 : -1000000 ≤ x) (h1 : x ≤ 1000000) : Calls Try.prog 20 #[.int .i64 x] w fun e w' => e = .returned (.int .i64 (absI x)) ∧ w = w' := by
  by_cases h : x < 0
  · have e : absI x = -x := if_pos h
    rw [e]
    clear e
    have h2 : x ≤ -x := by omega
    have h3 : ¬ -x ≤ x := by omega
    go_enter Try.func20, Try.ntmps20
    go_wp2
    all_goals (go_ret; exact ⟨ret_int (by omega), rfl⟩)
  · have e : absI x = x := if_neg h
    rw [e]
    clear e
    have h3 : -x ≤ x := by omega
    go_enter Try.func20, Try.ntmps20
    go_wp2
    all_goals (go_ret; exact ⟨ret_int (by omega), rfl⟩)

theorem wins_800 : wins 0 0 0 800 = [(0, 6), (93, 95)] := by decide +kernel
theorem wins_892 : wins 0 0 0 892 = [] := by decide +kernel
theorem wins_all : wins 0 0 0 (-1000) = [(0, 95)] := by decide +kernel

theorem SpV.lit1 (w : World) (T : TypeId) (a b : Int) : SpV (w.alloc (.cells #[.int .i64 a, .int .i64 b] T)) (.slice (some ⟨w.heap.size, 0, none⟩) 1 1) [(a, b)] := by
  refine ⟨_, _, rfl, by simp [spanCells, maxLen], fun i x hi => ⟨_, _, rfl, by simp, ?_⟩⟩
  have := (Blk.new w #[.int .i64 a, .int .i64 b] T).cell i
  rw [Nat.zero_add, this]; exact hi
theorem SpV.lit2 (w : World) (T : TypeId) (a b c d : Int) : SpV (w.alloc (.cells #[.int .i64 a, .int .i64 b, .int .i64 c, .int .i64 d] T)) (.slice (some ⟨w.heap.size, 0, none⟩) 2 2) [(a, b), (c, d)] := by
  refine ⟨_, _, rfl, by simp [spanCells, maxLen], fun i x hi => ⟨_, _, rfl, by simp, ?_⟩⟩
  have := (Blk.new w #[.int .i64 a, .int .i64 b, .int .i64 c, .int .i64 d] T).cell i
  rw [Nat.zero_add, this]; exact hi


set_option maxHeartbeats 4000000 in
set_option maxRecDepth 100000 in
theorem head_any (w : World) : Calls Try.prog 10 #[] w fun e w' => e = .returned (.bool true) ∧ Below w.heap.size w w' := by
  have v1 : airV 900 = 1000 ∧ airE 900 = 0 := by decide
  have v2 : airV 450 = 2000 ∧ airE 450 = 0 := by decide
  have v3 : airV 100 = 9000 ∧ airE 100 = 0 := by decide
  have v4 : airE 99 = 19 := by decide
  have v5 : airE 901 = 1 := by decide
  have v6 : winE 0 0 0 = 0 := by decide
  have V1 := hid v1
  have V2 := hid v2
  have V3 := hid v3
  have V4 := hid v4
  have V5 := hid v5
  have V6 := hid v6
  clear v1 v2 v3 v4 v5 v6
  go_enter Try.func10, Try.ntmps10
  go_wp2_with fail
  refine (air_any _ _).mono ?_  ;rintro e w' ⟨rfl, rfl⟩  ;go_wp2_with fail
  refine (air_any _ _).mono ?_  ;rintro e w' ⟨rfl, rfl⟩  ;go_wp2_with fail
  refine (air_any _ _).mono ?_  ;rintro e w' ⟨rfl, rfl⟩  ;go_wp2_with fail
  refine (air_any _ _).mono ?_  ;rintro e w' ⟨rfl, rfl⟩  ;go_wp2_with fail
  refine (air_any _ _).mono ?_  ;rintro e w' ⟨rfl, rfl⟩  ;go_wp2_with fail
  rw [V1.out.1, V1.out.2, V2.out.1, V2.out.2, V3.out.1, V3.out.2, V4.out, V5.out]
  refine (windows_any _ _ _ _ _).mono ?_
  rintro e w1 ⟨x, rfl, hx, hB1⟩
  go_wp2_with fail
  refine (windows_any _ _ _ _ _).mono ?_
  rintro e w2 ⟨y, rfl, hy, hB2⟩
  go_wp2_with fail
  refine (windows_any _ _ _ _ _).mono ?_
  rintro e w3 ⟨z, rfl, hz, hB3⟩
  rw [V6.out]
  rw [wins_800] at hx
  rw [wins_892] at hy
  rw [wins_all] at hz
  have hx3 := (hx.below hB2).below hB3
  obtain ⟨ay, cy, rfl, _⟩ := hy
  go_wp2_with (first | (go_at_call 23; refine (hour_is _ _ _ _ (by decide)).mono ?_; rintro e w' ⟨rfl, rfl⟩) | (go_at_call 24; refine (height_is _ _ _ _ _ (by decide)).mono ?_; rintro e w' ⟨rfl, rfl⟩) | (go_at_call 25; refine (is_same _ _).mono ?_; rintro e w' ⟨rfl, rfl⟩))
  refine (rspans_eq _ _ _ _ (hx3.below (below_alloc w3 _)) (SpV.lit2 w3 _ 0 6 93 95) (by simp)).mono ?_
  rintro e w4 ⟨rfl, hB4⟩
  have hC4 := unalloc hB4
  go_wp2_with fail
  refine (rspans_eq _ _ _ _ ((hz.below hC4).below (below_alloc w4 _)) (SpV.lit1 w4 _ 0 95) (by simp)).mono ?_
  rintro e w5 ⟨rfl, hB5⟩
  have hC5 := unalloc hB5
  go_wp2_with fail
  go_ret
  exact ⟨rfl, bthen hB1 (bthen hB2 (bthen hB3 (bthen hC4 hC5)))⟩
end Go.Proofs.Ytgelhndjdngdnaa
