/- unit: Power, joined -/
import Derived.Test.YtmfoincmjpogmaaDoorUnitPowA
import Derived.Test.YtmfoincmjpogmaaDoorUnitPowB
import Derived.Test.YtmfoincmjpogmaaDoorUnitPowC
namespace Go.Proofs.YtmfoincmjpogmaaDoor
open Go.RowKit

set_option maxHeartbeats 2000000 in
set_option maxRecDepth 100000 in
theorem power_bad (ua ub uc : Int) (n : Int) (w : World) (h1 : vB ⟨ua, ub, uc⟩ = false) : Calls Tryd.prog 11 #[.agg #[.int .i64 ua, .int .i64 ub, .int .i64 uc], .int .i64 n] w fun e w' => e = .returned (.tuple #[uV u0, .int .i64 1]) ∧ Below w.heap.size w w' := by
  have hv := fun w => valid_any ⟨ua, ub, uc⟩ w
  rw [h1] at hv
  have HV := hid hv
  clear hv h1
  unfold uV at *
  dsimp only at HV
  go_enter Tryd.func11, Tryd.ntmps11
  go_wp2_with fail
  obtain ⟨w0, hw0, hu, hz, hB⟩ := unit1_worlds ⟨ua, ub, uc⟩ w
  dsimp only at hw0
  rw [hw0]
  clear hw0
  generalize hg1 : w.heap.size + 1 = b2 at *
  have HB := hid (show b2 = w.heap.size + 1 from hg1.symm)
  have hwb2 : w.heap.size ≤ b2 := (by omega)
  clear hg1
  refine (HV.out _).mono ?_
  rintro e w' ⟨rfl, hB1⟩
  replace hz := hz.below hB1 hz.lt
  replace hB := hB.trans (hB1.mono hB.size)
  clear hB1
  go_wp2_with (refine wpList_store_row rfl 23 _ _ rfl b2 _ rfl rfl 23 _ hz (by kernel_rfl) rfl (by simp [Value.oneCell']) ?_)  ;(try simp only [Exit.inBlock, Exit.then]); refine bodyPost_ret (results_row2 rfl _ _ b2 23 _ _ rfl (setRow_heap _ _ _ _ _ _ hz) Tryd.underlying23 rfl (by kernel_rfl)) rfl ?_
  exact ⟨rfl, below_setRow hB hwb2 _⟩
set_option maxHeartbeats 2000000 in
set_option maxRecDepth 100000 in
theorem power_zero (n : Int) (w : World) : Calls Tryd.prog 11 #[.agg #[.int .i64 0, .int .i64 0, .int .i64 0], .int .i64 n] w fun e w' => e = .returned (.tuple #[uV u0, .int .i64 0]) ∧ Below w.heap.size w w' := by
  have HV := hid (fun w => valid_any ⟨0, 0, 0⟩ w)
  have h1 : vB ⟨0, 0, 0⟩ = true := by decide
  rw [h1] at HV
  clear h1
  unfold uV at *
  dsimp only at HV
  go_enter Tryd.func11, Tryd.ntmps11
  go_wp2_with fail
  obtain ⟨w0, hw0, hu, hz, hB⟩ := unit1_worlds ⟨0, 0, 0⟩ w
  dsimp only at hw0 hu
  rw [hw0]
  clear hw0
  generalize hg1 : w.heap.size + 1 = b2 at *
  have HB := hid (show b2 = w.heap.size + 1 from hg1.symm)
  have hwb2 : w.heap.size ≤ b2 := (by omega)
  clear hg1
  refine (HV.out _).mono ?_
  rintro e w' ⟨rfl, hB1⟩
  replace hz := hz.below hB1 hz.lt
  replace hu := hu.below hB1 hu.lt
  replace hB := hB.trans (hB1.mono hB.size)
  clear hB1
  have uc0 := hu.cell 0
  have uc1 := hu.cell 1
  have uc2 := hu.cell 2
  simp only [uCells, List.getElem?_cons_succ, List.getElem?_cons_zero] at uc0 uc1 uc2
  go_wp2_with (refine wpList_store_row rfl 23 _ _ rfl b2 _ rfl rfl 23 _ hz (by kernel_rfl) rfl (by simp [Value.oneCell']) ?_)  ;(try simp only [Exit.inBlock, Exit.then]); refine bodyPost_ret (results_row2 rfl _ _ b2 23 _ _ rfl (setRow_heap _ _ _ _ _ _ hz) Tryd.underlying23 rfl (by kernel_rfl)) rfl ?_
  exact ⟨rfl, below_setRow hB hwb2 _⟩
theorem power_any (u : U) (n : Int) (w : World) : Calls Tryd.prog 11 #[uV u, .int .i64 n] w fun e w' => e = .returned (.tuple #[uV (powR u n).1, .int .i64 (powR u n).2]) ∧ Below w.heap.size w w' := by
  obtain ⟨ua, ub, uc⟩ := u
  unfold powR
  cases h1 : vB ⟨ua, ub, uc⟩
  · exact power_bad ua ub uc n w h1
  · rw [if_pos rfl]
    by_cases h0 : (⟨ua, ub, uc⟩ : U) = u0
    · rw [if_pos h0]
      obtain ⟨rfl, rfl, rfl⟩ : ua = 0 ∧ ub = 0 ∧ uc = 0 := by simpa [u0] using h0
      exact power_zero n w
    · rw [if_neg h0]
      have hr : ∀ b : Bool, (∀ x : U, (if b = true then (x, (0 : Int)) else (u0, 9)) = ((if b = true then x else u0), (if b = true then 0 else 9))) := by intro b x; cases b <;> rfl
      rw [hr]
      by_cases za : ua = 0
      · subst za
        by_cases zb : ub = 0
        · subst zb
          by_cases zc : uc = 0
          · subst zc; exact absurd rfl h0
          · exact power_c uc zc n w h1
        · exact power_b ub uc zb n w h1
      · exact power_a ua ub uc za n w h1
end Go.Proofs.YtmfoincmjpogmaaDoor
