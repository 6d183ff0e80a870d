/- the reference's letter, digit, word -/
import Derived.Test.YtgkgpfennlkcnaaDoorLexPure
import Derived.Test.YtgkgpfennlkcnaaDoorProg
import Derived.Test.YtgkgpfennlkcnaaDoorLib2
import Derived.Test.YtgkgpfennlkcnaaDoorLibQ
import Derived.Laws.Rows
namespace Go.Proofs.YtgkgpfennlkcnaaDoor
open Go.RowKit

theorem clsN3 : ∀ n, n < 256 → (clsN n = 3 ↔ ((97 ≤ n ∧ n ≤ 122) ∨ (65 ≤ n ∧ n ≤ 90))) := by decide +kernel
theorem clsN4 : ∀ n, n < 256 → (clsN n = 4 ↔ (48 ≤ n ∧ n ≤ 57)) := by decide +kernel
theorem clsN5 : ∀ n, n < 256 → (clsN n = 5 ↔ n = 95) := by decide +kernel
theorem rletter_any (b : UInt8) (w : World) : Calls Tryd.prog 49 #[.int .u8 b.toNat] w fun e w' => e = .returned (.bool (decide (cls b = 3))) ∧ w = w' := by
  have hb := b.toNat_lt
  have hc : cls b = clsN b.toNat := rfl
  rw [hc]
  generalize b.toNat = n at *
  have h3 := clsN3 n hb
  clear hc
  by_cases h1 : 97 ≤ n
  · by_cases h2 : n ≤ 122
    · rw [decide_eq_true (h3.2 (.inl ⟨h1, h2⟩))]
      clear h3
      go_enter Tryd.func49, Tryd.ntmps49
      go_wp2
      go_ret
      exact ⟨ret_bool (by first | rfl | (simp; omega) | (simp [*])), rfl⟩
    · rw [decide_eq_false (fun h => by have := h3.1 h; omega)]
      clear h3
      go_enter Tryd.func49, Tryd.ntmps49
      go_wp2
      go_ret
      exact ⟨ret_bool (by first | rfl | (simp; omega) | (simp [*])), rfl⟩
  · by_cases h2 : 65 ≤ n
    · by_cases h4 : n ≤ 90
      · rw [decide_eq_true (h3.2 (.inr ⟨h2, h4⟩))]
        clear h3
        go_enter Tryd.func49, Tryd.ntmps49
        go_wp2
        go_ret
        exact ⟨ret_bool (by first | rfl | (simp; omega) | (simp [*])), rfl⟩
      · rw [decide_eq_false (fun h => by have := h3.1 h; omega)]
        clear h3
        go_enter Tryd.func49, Tryd.ntmps49
        go_wp2
        go_ret
        exact ⟨ret_bool (by first | rfl | (simp; omega) | (simp [*])), rfl⟩
    · rw [decide_eq_false (fun h => by have := h3.1 h; omega)]
      clear h3
      go_enter Tryd.func49, Tryd.ntmps49
      go_wp2
      go_ret
      exact ⟨ret_bool (by first | rfl | (simp; omega) | (simp [*])), rfl⟩

theorem rdigit_any (b : UInt8) (w : World) : Calls Tryd.prog 51 #[.int .u8 b.toNat] w fun e w' => e = .returned (.bool (decide (cls b = 4))) ∧ w = w' := by
  have hb := b.toNat_lt
  have hc : cls b = clsN b.toNat := rfl
  rw [hc]
  generalize b.toNat = n at *
  have h3 := clsN4 n hb
  clear hc
  by_cases h1 : 48 ≤ n
  · by_cases h2 : n ≤ 57
    · rw [decide_eq_true (h3.2 ⟨h1, h2⟩)]
      clear h3
      go_enter Tryd.func51, Tryd.ntmps51
      go_wp2
      go_ret
      exact ⟨ret_bool (by first | rfl | (simp; omega) | (simp [*])), rfl⟩
    · rw [decide_eq_false (fun h => by have := h3.1 h; omega)]
      clear h3
      go_enter Tryd.func51, Tryd.ntmps51
      go_wp2
      go_ret
      exact ⟨ret_bool (by first | rfl | (simp; omega) | (simp [*])), rfl⟩
  · rw [decide_eq_false (fun h => by have := h3.1 h; omega)]
    clear h3
    go_enter Tryd.func51, Tryd.ntmps51
    go_wp2
    go_ret
    exact ⟨ret_bool (by first | rfl | (simp; omega) | (simp [*])), rfl⟩

theorem cls5 (b : UInt8) : cls b = 5 ↔ b.toNat = 95 := clsN5 _ b.toNat_lt
theorem rword_any (b : UInt8) (w : World) : Calls Tryd.prog 50 #[.int .u8 b.toNat] w fun e w' => e = .returned (.bool ([3, 4, 5].contains (cls b))) ∧ w = w' := by
  have hb := b.toNat_lt
  have HL := hid (fun w => rletter_any b w)
  have HD := hid (fun w => rdigit_any b w)
  have h5 := cls5 b
  have hle := cls_le b
  have hcc : [3, 4, 5].contains (cls b) = (decide (cls b = 3) || (decide (cls b = 4) || decide (b.toNat = 95))) := by
    rw [Bool.eq_iff_iff]; simp [h5]
  rw [hcc]
  clear hcc h5
  generalize decide (cls b = 3) = B1 at *
  generalize decide (cls b = 4) = B2 at *
  generalize b.toNat = n at *
  go_enter Tryd.func50, Tryd.ntmps50
  go_wp2_with fail
  refine (HL.out _).mono ?_
  rintro e w' ⟨rfl, rfl⟩
  cases B1 with
  | true =>
    go_wp2_with fail
    go_ret
    exact ⟨ret_bool (by first | rfl | simp), rfl⟩
  | false =>
    go_wp2_with fail
    refine (HD.out _).mono ?_
    rintro e w' ⟨rfl, rfl⟩
    cases B2 with
    | true =>
      go_wp2_with fail
      go_ret
      exact ⟨ret_bool (by first | rfl | simp), rfl⟩
    | false =>
      go_wp2_with fail
      go_ret
      exact ⟨ret_bool (by first | rfl | (rw [Bool.eq_iff_iff]; simp; done) | (rw [Bool.eq_iff_iff]; simp; omega)), rfl⟩
end Go.Proofs.YtgkgpfennlkcnaaDoor
