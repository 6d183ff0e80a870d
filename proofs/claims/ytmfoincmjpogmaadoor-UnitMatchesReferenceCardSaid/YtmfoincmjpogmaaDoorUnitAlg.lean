/- unit: the plain laws of products and powers -/
import Derived.Test.YtmfoincmjpogmaaDoorUnitPow
namespace Go.Proofs.YtmfoincmjpogmaaDoor
open Go.RowKit

theorem vB_u0 : vB u0 = true := by decide
theorem U_ext {u v : U} (h1 : u.a = v.a) (h2 : u.b = v.b) (h3 : u.c = v.c) : u = v := by cases u; cases v; simp at h1 h2 h3; subst h1 h2 h3; rfl
theorem mulE_zero {u v : U} : mulE u v = 0 ↔ vB u = true ∧ vB v = true ∧ vB (addU u v) = true := by
  unfold mulE
  cases vB u <;> cases vB v <;> cases vB (addU u v) <;> simp
theorem mulU_ok {u v : U} (h : mulE u v = 0) : mulU u v = addU u v := by
  obtain ⟨h1, h2, h3⟩ := mulE_zero.1 h
  unfold mulU
  rw [h1, h2, h3]; rfl
theorem mulE_cases (u v : U) : mulE u v = 0 ∨ (mulE u v = 9 ∧ mulU u v = u0 ∧ vB u = true ∧ vB v = true ∧ vB (addU u v) = false) ∨ (mulE u v = 1 ∧ mulU u v = u0 ∧ (vB u = false ∨ vB v = false)) := by
  unfold mulE mulU
  cases vB u <;> cases vB v <;> cases vB (addU u v) <;> simp
theorem addU_comm (u v : U) : addU u v = addU v u := by unfold addU; apply U_ext <;> dsimp only <;> omega
theorem mul_comm (u v : U) : mulU u v = mulU v u ∧ mulE u v = mulE v u := by
  unfold mulU mulE
  rw [addU_comm u v]
  cases vB u <;> cases vB v <;> simp
theorem addU_zero (u : U) : addU u u0 = u := by unfold addU u0; apply U_ext <;> dsimp only <;> omega
theorem clamp_in {n : Int} (h : -9 ≤ n ∧ n ≤ 9) : clampN n = n := by unfold clampN; omega
theorem clamp_hi {n : Int} (h : 9 ≤ n) : clampN n = 9 := by unfold clampN; omega
theorem clamp_lo {n : Int} (h : n ≤ -9) : clampN n = -9 := by unfold clampN; omega
theorem ne_u0 {u : U} (h : u ≠ u0) : u.a ≠ 0 ∨ u.b ≠ 0 ∨ u.c ≠ 0 := by
  by_cases h1 : u.a = 0
  · by_cases h2 : u.b = 0
    · by_cases h3 : u.c = 0
      · exact absurd (U_ext h1 h2 h3) h
      · exact .inr (.inr h3)
    · exact .inr (.inl h2)
  · exact .inl h1
theorem scl_u0 (n : Int) : sclU u0 n = u0 := by unfold sclU u0; apply U_ext <;> dsimp only <;> omega
/-- the factor of a power that is in range -/
theorem scl_clamp {u : U} {n : Int} (h : u ≠ u0) (hv : vB (sclU u (clampN n)) = true) : -8 ≤ n ∧ n ≤ 8 := by
  have h0 := ne_u0 h
  obtain ⟨h1, h2, h3⟩ := (vB_iff _).1 hv
  by_cases hh : 9 ≤ n
  · rw [clamp_hi hh] at h1 h2 h3
    unfold sclU at h1 h2 h3
    dsimp only at h1 h2 h3
    omega
  · by_cases hl : n ≤ -9
    · rw [clamp_lo hl] at h1 h2 h3
      unfold sclU at h1 h2 h3
      dsimp only at h1 h2 h3
      omega
    · omega
theorem pow_zero {u : U} {n : Int} (h : (powR u n).2 = 0) : vB u = true ∧ (powR u n).1 = sclU u n ∧ vB (sclU u n) = true := by
  unfold powR at *
  by_cases h1 : vB u = true
  · rw [if_pos h1] at *
    by_cases h2 : u = u0
    · rw [if_pos h2] at *
      subst h2
      exact ⟨h1, (scl_u0 n).symm, by rw [scl_u0]; exact vB_u0⟩
    · rw [if_neg h2] at *
      by_cases h3 : vB (sclU u (clampN n)) = true
      · rw [if_pos h3] at *
        have := scl_clamp h2 h3
        rw [clamp_in (by omega)] at *
        exact ⟨h1, rfl, h3⟩
      · rw [if_neg h3] at h; cases h
  · rw [if_neg h1] at h; cases h
theorem pow_cases (u : U) (n : Int) : (powR u n).2 = 0 ∨ ((powR u n).2 = 9 ∧ (powR u n).1 = u0 ∧ vB u = true ∧ vB (sclU u n) = false) ∨ ((powR u n).2 = 1 ∧ (powR u n).1 = u0 ∧ vB u = false) := by
  by_cases h : (powR u n).2 = 0
  · exact .inl h
  · right
    have h' := h
    unfold powR at *
    by_cases h1 : vB u = true
    · rw [if_pos h1] at *
      by_cases h2 : u = u0
      · rw [if_pos h2] at h; exact absurd rfl h
      · rw [if_neg h2] at *
        by_cases h3 : vB (sclU u (clampN n)) = true
        · rw [if_pos h3] at h; exact absurd rfl h
        · rw [if_neg h3] at *
          refine .inl ⟨rfl, rfl, h1, ?_⟩
          rw [Bool.eq_false_iff]
          intro hs
          obtain ⟨g1, g2, g3⟩ := (vB_iff _).1 hs
          have h0 := ne_u0 h2
          by_cases hh : 9 ≤ n
          · unfold sclU at g1 g2 g3
            dsimp only at g1 g2 g3
            have key : ∀ x : Int, x ≠ 0 → -8 ≤ x * n ∧ x * n ≤ 8 → False := by
              intro x hx hb
              rcases Int.lt_or_gt_of_ne hx with hx | hx
              · have := Int.mul_le_mul_of_nonneg_right (show x ≤ -1 by omega) (show 0 ≤ n by omega)
                omega
              · have := Int.mul_le_mul_of_nonneg_right (show 1 ≤ x by omega) (show 0 ≤ n by omega)
                omega
            rcases h0 with h0 | h0 | h0
            · exact key _ h0 g1
            · exact key _ h0 g2
            · exact key _ h0 g3
          · by_cases hl : n ≤ -9
            · unfold sclU at g1 g2 g3
              dsimp only at g1 g2 g3
              have key : ∀ x : Int, x ≠ 0 → -8 ≤ x * n ∧ x * n ≤ 8 → False := by
                intro x hx hb
                have e : x * n = -(x * -n) := by rw [Int.mul_neg, Int.neg_neg]
                rcases Int.lt_or_gt_of_ne hx with hx | hx
                · have := Int.mul_le_mul_of_nonneg_right (show x ≤ -1 by omega) (show 0 ≤ -n by omega)
                  omega
                · have := Int.mul_le_mul_of_nonneg_right (show 1 ≤ x by omega) (show 0 ≤ -n by omega)
                  omega
              rcases h0 with h0 | h0 | h0
              · exact key _ h0 g1
              · exact key _ h0 g2
              · exact key _ h0 g3
            · rw [clamp_in (by omega)] at h3
              exact h3 hs
    · rw [if_neg h1] at *
      exact .inr ⟨rfl, rfl, by simpa using h1⟩
theorem pow_neg {u : U} (h : vB u = true) : (powR u (-1)).2 = 0 ∧ mulU u (powR u (-1)).1 = u0 ∧ mulE u (powR u (-1)).1 = 0 := by
  have hs : vB (sclU u (-1)) = true := by
    obtain ⟨h1, h2, h3⟩ := (vB_iff u).1 h
    rw [vB_iff]; unfold sclU; dsimp only; omega
  have hz : (powR u (-1)).2 = 0 := by
    rcases pow_cases u (-1) with h1 | ⟨_, _, _, h1⟩ | ⟨_, _, h1⟩
    · exact h1
    · rw [hs] at h1; cases h1
    · rw [h] at h1; cases h1
  obtain ⟨_, h2, h3⟩ := pow_zero hz
  have ha : addU u (sclU u (-1)) = u0 := by unfold addU sclU u0; apply U_ext <;> dsimp only <;> omega
  have hm : mulE u (sclU u (-1)) = 0 := mulE_zero.2 ⟨h, h3, by rw [ha]; exact vB_u0⟩
  rw [h2]
  exact ⟨hz, (mulU_ok hm).trans ha, hm⟩
theorem mul_one {u : U} (h : vB u = true) : mulU u u0 = u ∧ mulE u u0 = 0 := by
  have hm : mulE u u0 = 0 := mulE_zero.2 ⟨h, vB_u0, by rw [addU_zero]; exact h⟩
  exact ⟨(mulU_ok hm).trans (addU_zero u), hm⟩
theorem mul_assoc {a b c : U} (h1 : mulE a b = 0) (h2 : mulE b c = 0) (h3 : mulE (mulU a b) c = 0) (h4 : mulE a (mulU b c) = 0) : mulU (mulU a b) c = mulU a (mulU b c) := by
  rw [mulU_ok h3, mulU_ok h4, mulU_ok h1, mulU_ok h2]
  unfold addU; apply U_ext <;> dsimp only <;> omega
theorem mul_arg {a b : U} (h : vB a = false) : mulE a b = 1 ∧ mulU a b = u0 := by
  unfold mulE mulU; rw [h]; simp
theorem pow_add {a : U} {n m : Int} (h1 : (powR a n).2 = 0) (h2 : (powR a m).2 = 0) (h3 : (powR a (n + m)).2 = 0) (h4 : mulE (powR a n).1 (powR a m).1 = 0) : mulU (powR a n).1 (powR a m).1 = (powR a (n + m)).1 := by
  rw [mulU_ok h4, (pow_zero h1).2.1, (pow_zero h2).2.1, (pow_zero h3).2.1]
  unfold addU sclU; apply U_ext <;> dsimp only <;> rw [Int.mul_add]
theorem pow_pow {a : U} {n m : Int} (h1 : (powR a n).2 = 0) (h2 : (powR (powR a n).1 m).2 = 0) (h3 : (powR a (n * m)).2 = 0) : (powR (powR a n).1 m).1 = (powR a (n * m)).1 := by
  rw [(pow_zero h2).2.1, (pow_zero h3).2.1, (pow_zero h1).2.1]
  unfold sclU; apply U_ext <;> dsimp only <;> rw [Int.mul_assoc]
theorem pow_mul {a b : U} {n : Int} (h1 : mulE a b = 0) (h2 : (powR (mulU a b) n).2 = 0) (h3 : (powR a n).2 = 0) (h4 : (powR b n).2 = 0) (h5 : mulE (powR a n).1 (powR b n).1 = 0) :
    (powR (mulU a b) n).1 = mulU (powR a n).1 (powR b n).1 := by
  rw [mulU_ok h5, (pow_zero h2).2.1, (pow_zero h3).2.1, (pow_zero h4).2.1, mulU_ok h1]
  unfold addU sclU; apply U_ext <;> dsimp only <;> rw [Int.add_mul]
theorem scl_zero (u : U) : sclU u 0 = u0 := by unfold sclU u0; apply U_ext <;> dsimp only <;> omega
theorem scl_one (u : U) : sclU u 1 = u := by unfold sclU; apply U_ext <;> dsimp only <;> omega
theorem pow_ok {u : U} {n : Int} (h : vB u = true) (hs : vB (sclU u n) = true) : powR u n = (sclU u n, 0) := by
  have hz : (powR u n).2 = 0 := by
    rcases pow_cases u n with h1 | ⟨_, _, _, h1⟩ | ⟨_, _, h1⟩
    · exact h1
    · rw [hs] at h1; cases h1
    · rw [h] at h1; cases h1
  exact Prod.ext (pow_zero hz).2.1 hz
theorem pow_one {u : U} (h : vB u = true) : powR u 1 = (u, 0) := by
  have := pow_ok (n := 1) h (by rw [scl_one]; exact h)
  rwa [scl_one] at this
theorem pow_nil {u : U} (h : vB u = true) : powR u 0 = (u0, 0) := by
  have := pow_ok (n := 0) h (by rw [scl_zero]; exact vB_u0)
  rwa [scl_zero] at this
theorem pow_out {u : U} {n : Int} (h : vB u = true) (hs : vB (sclU u n) = false) : powR u n = (u0, 9) := by
  rcases pow_cases u n with h1 | ⟨h1, h2, _, _⟩ | ⟨_, _, h1⟩
  · have := (pow_zero h1).2.2
    rw [hs] at this; cases this
  · exact Prod.ext h2 h1
  · rw [h] at h1; cases h1
theorem pow_arg {u : U} {n : Int} (h : vB u = false) : powR u n = (u0, 1) := by unfold powR; rw [h]; rfl
end Go.Proofs.YtmfoincmjpogmaaDoor
