/- calendar: nights, slots, the sidereal angle -/
import Derived.Test.YtlikkplipofghaaDoorProg
import Derived.Test.YtlikkplipofghaaDoorLib
namespace Go.Proofs.YtlikkplipofghaaDoor
open Go.RowKit

def momB (m : Int) : Bool := decide (0 ≤ m ∧ m ≤ 38399)
def sid (m : Int) : Int := (60 * (m % 96) + 16 * (m / 96)) % 5760
theorem sid_bd (m : Int) : 0 ≤ sid m ∧ sid m < 5760 := by unfold sid; omega

theorem within_yes (x n : Int) (w : World) (h : 0 ≤ x ∧ x < n) : Calls Tryd.prog 21 #[.int .i64 x, .int .i64 n] w fun e w' => e = .returned (.bool true) ∧ w = w' := by
  obtain ⟨h1, h2⟩ := h
  go_enter Tryd.func21, Tryd.ntmps21
  go_wp2
  go_ret
  exact ⟨ret_bool (by first | rfl | (simp [*])), rfl⟩
theorem within_no (x n : Int) (w : World) (h : ¬ (0 ≤ x ∧ x < n)) : Calls Tryd.prog 21 #[.int .i64 x, .int .i64 n] w fun e w' => e = .returned (.bool false) ∧ w = w' := by
  by_cases h1 : 0 ≤ x
  · have h2 : ¬ x < n := fun h2 => h ⟨h1, h2⟩
    clear h
    go_enter Tryd.func21, Tryd.ntmps21
    go_wp2
    go_ret
    exact ⟨ret_bool (by first | rfl | (simp; omega) | (simp [*])), rfl⟩
  · clear h
    go_enter Tryd.func21, Tryd.ntmps21
    go_wp2
    go_ret
    exact ⟨rfl, rfl⟩

theorem split_yes (m : Int) (w : World) (h0 : 0 ≤ m) (h1 : m ≤ 38399) : Calls Tryd.prog 10 #[.int .i64 m] w fun e w' => e = .returned (.tuple #[.int .i64 (m / 96), .int .i64 (m % 96), .int .i64 0]) ∧ w = w' := by
  go_enter Tryd.func10, Tryd.ntmps10
  go_wp2_with (go_at_call 21; refine (within_yes _ _ _ ⟨by omega, by omega⟩).mono ?_; rintro e w' ⟨rfl, rfl⟩)
  go_ret3
  exact ⟨rfl, rfl⟩
theorem split_no (m : Int) (w : World) (h : ¬ (0 ≤ m ∧ m ≤ 38399)) : Calls Tryd.prog 10 #[.int .i64 m] w fun e w' => e = .returned (.tuple #[.int .i64 0, .int .i64 0, .int .i64 1]) ∧ w = w' := by
  have H := hid h
  clear h
  go_enter Tryd.func10, Tryd.ntmps10
  go_wp2_with (go_at_call 21; refine (within_no _ _ _ (fun h => H.out ⟨h.1, by omega⟩)).mono ?_; rintro e w' ⟨rfl, rfl⟩)
  go_ret3
  exact ⟨rfl, rfl⟩
theorem sidereal_yes (m : Int) (w : World) (h0 : 0 ≤ m) (h1 : m ≤ 38399) : Calls Tryd.prog 12 #[.int .i64 m] w fun e w' => e = .returned (.tuple #[.int .i64 (sid m), .int .i64 0]) ∧ w = w' := by
  go_enter Tryd.func12, Tryd.ntmps12
  go_wp2_with (go_at_call 10; refine (split_yes _ _ h0 h1).mono ?_; rintro e w' ⟨rfl, rfl⟩)
  go_ret2
  exact ⟨rfl, rfl⟩
theorem sidereal_no (m : Int) (w : World) (h : ¬ (0 ≤ m ∧ m ≤ 38399)) : Calls Tryd.prog 12 #[.int .i64 m] w fun e w' => e = .returned (.tuple #[.int .i64 0, .int .i64 1]) ∧ w = w' := by
  have H := hid h
  clear h
  go_enter Tryd.func12, Tryd.ntmps12
  go_wp2_with (go_at_call 10; refine (split_no _ _ H.out).mono ?_; rintro e w' ⟨rfl, rfl⟩)
  go_ret2
  exact ⟨rfl, rfl⟩
theorem moment_yes (n s : Int) (w : World) (h : 0 ≤ n ∧ n < 400) (h' : 0 ≤ s ∧ s < 96) : Calls Tryd.prog 8 #[.int .i64 n, .int .i64 s] w fun e w' => e = .returned (.tuple #[.int .i64 (n * 96 + s), .int .i64 0]) ∧ w = w' := by
  obtain ⟨a, b⟩ := h
  obtain ⟨c, d⟩ := h'
  go_enter Tryd.func8, Tryd.ntmps8
  go_wp2_with (go_at_call 21; refine (within_yes _ _ _ ⟨by omega, by omega⟩).mono ?_; rintro e w' ⟨rfl, rfl⟩)
  go_ret2
  exact ⟨rfl, rfl⟩
theorem moment_no (n s : Int) (w : World) (h : ¬ ((0 ≤ n ∧ n < 400) ∧ 0 ≤ s ∧ s < 96)) : Calls Tryd.prog 8 #[.int .i64 n, .int .i64 s] w fun e w' => e = .returned (.tuple #[.int .i64 0, .int .i64 1]) ∧ w = w' := by
  by_cases h1 : 0 ≤ n ∧ n < 400
  · have h2 : ¬ (0 ≤ s ∧ s < 96) := fun h2 => h ⟨h1, h2⟩
    have H1 := hid h1
    have H2 := hid h2
    clear h h1 h2
    go_enter Tryd.func8, Tryd.ntmps8
    go_wp2_with fail
    refine (within_yes n 400 _ H1.out).mono ?_
    rintro e w' ⟨rfl, rfl⟩
    go_wp2_with fail
    refine (within_no s 96 _ H2.out).mono ?_
    rintro e w' ⟨rfl, rfl⟩
    go_wp2_with fail
    go_ret2
    exact ⟨rfl, rfl⟩
  · have H1 := hid h1
    clear h h1
    go_enter Tryd.func8, Tryd.ntmps8
    go_wp2_with (go_at_call 21; refine (within_no n 400 _ H1.out).mono ?_; rintro e w' ⟨rfl, rfl⟩)
    go_ret2
    exact ⟨rfl, rfl⟩
end Go.Proofs.YtlikkplipofghaaDoor
