/- flow: the laws' own small functions; what Units says of the first steps, plain -/
import Derived.Test.YtogcnmjipfllaaaDoorFloHead
namespace Go.Proofs.YtogcnmjipfllaaaDoor
open Go.RowKit

theorem few_any (f : Flw) (so : Option Addr) (sc : Nat) (w : World) (hl : f.steps.length ≤ maxLen) (hs : f.name.size ≤ maxLen) :
    Calls Tryd.prog 7 #[fV f so sc] w fun e w' => e = .returned (.bool (decide (f.steps.length ≤ 50) && decide (f.name.size ≤ 60))) ∧ Below w.heap.size w w' := by
  obtain ⟨nm, ver, S⟩ := f
  simp only [fV] at hl hs ⊢
  generalize S.length = n at *
  have HB := hid (below_alloc w (.cells #[.string nm, .int .i64 ver, .slice so n sc] 24))
  by_cases h1 : n ≤ 50
  · have h1I : (n : Int) ≤ 50 := by omega
    by_cases h2 : nm.size ≤ 60
    · have h2I : (nm.size : Int) ≤ 60 := by omega
      go_enter Tryd.func7, Tryd.ntmps7
      go_wp2_with fail
      go_ret
      exact ⟨ret_bool (by simp [h1, h2]), HB.out⟩
    · have h2I : ¬ (nm.size : Int) ≤ 60 := by omega
      go_enter Tryd.func7, Tryd.ntmps7
      go_wp2_with fail
      go_ret
      exact ⟨ret_bool (by simp [h2]), HB.out⟩
  · have h1I : ¬ (n : Int) ≤ 50 := by omega
    go_enter Tryd.func7, Tryd.ntmps7
    go_wp2_with fail
    go_ret
    exact ⟨ret_bool (by simp [h1]), HB.out⟩
theorem takes_any (n : Int) (w : World) : Calls Tryd.prog 23 #[.int .i64 n] w fun e w' => e = .returned (.bool (opr n).t) ∧ w' = w := by
  have hv : (opr n).t = (decide (n = 8) || decide (n = 9) || decide (n = 10)) := by
    by_cases h : 1 ≤ n ∧ n ≤ 10
    · rcases ten h with rfl | rfl | rfl | rfl | rfl | rfl | rfl | rfl | rfl | rfl <;> rfl
    · rw [opr_other h, decide_eq_false (show ¬ n = 8 by omega), decide_eq_false (show ¬ n = 9 by omega), decide_eq_false (show ¬ n = 10 by omega)]; rfl
  rw [hv]
  by_cases h8 : n = 8
  · subst h8
    go_enter Tryd.func23, Tryd.ntmps23
    go_wp2_with fail
    go_ret
    exact ⟨ret_bool rfl, rfl⟩
  · by_cases h9 : n = 9
    · subst h9
      go_enter Tryd.func23, Tryd.ntmps23
      go_wp2_with fail
      go_ret
      exact ⟨ret_bool rfl, rfl⟩
    · have b8 : (n == 8) = false := beq_eq_false_iff_ne.2 h8
      have b9 : (n == 9) = false := beq_eq_false_iff_ne.2 h9
      go_enter Tryd.func23, Tryd.ntmps23
      go_wp2_with fail
      go_ret
      exact ⟨ret_bool (by rw [decide_eq_false h8, decide_eq_false h9]; simp; rw [Bool.eq_iff_iff]; simp), rfl⟩
theorem mask_any (n : Int) (w : World) : Calls Tryd.prog 12 #[.int .i64 n] w fun e w' => e = .returned (.bool (opr n).m) ∧ w' = w := by
  have hv : (opr n).m = ((opr n).t || decide (n = 7)) := by
    by_cases h : 1 ≤ n ∧ n ≤ 10
    · rcases ten h with rfl | rfl | rfl | rfl | rfl | rfl | rfl | rfl | rfl | rfl <;> rfl
    · rw [opr_other h, decide_eq_false (show ¬ n = 7 by omega)]; rfl
  rw [hv]
  have HT := hid (takes_any n w)
  generalize (opr n).t = t at *
  by_cases h7 : n = 7
  · subst h7
    cases t with
    | true =>
      go_enter Tryd.func12, Tryd.ntmps12
      go_wp2_with fail
      refine (HT.out).mono ?_
      rintro e w1 ⟨rfl, rfl⟩
      go_wp2_with fail
      go_ret
      exact ⟨ret_bool rfl, rfl⟩
    | false =>
      go_enter Tryd.func12, Tryd.ntmps12
      go_wp2_with fail
      refine (HT.out).mono ?_
      rintro e w1 ⟨rfl, rfl⟩
      go_wp2_with fail
      go_ret
      exact ⟨ret_bool rfl, rfl⟩
  · have b7 : (n == 7) = false := beq_eq_false_iff_ne.2 h7
    rw [decide_eq_false h7]
    cases t with
    | true =>
      go_enter Tryd.func12, Tryd.ntmps12
      go_wp2_with fail
      refine (HT.out).mono ?_
      rintro e w1 ⟨rfl, rfl⟩
      go_wp2_with fail
      go_ret
      exact ⟨ret_bool rfl, rfl⟩
    | false =>
      go_enter Tryd.func12, Tryd.ntmps12
      go_wp2_with fail
      refine (HT.out).mono ?_
      rintro e w1 ⟨rfl, rfl⟩
      go_wp2_with fail
      go_ret
      exact ⟨ret_bool rfl, rfl⟩
set_option maxHeartbeats 2000000 in
set_option maxRecDepth 100000 in
/-- two equal lists of units -/
theorem same_yes (ao bo : Option Addr) (ac bc : Nat) (A : List U) (w : World) (hA : Uns w ao A) (hA2 : Uns w bo A) (hl : A.length ≤ 1000) :
    Calls Tryd.prog 11 #[.slice ao A.length ac, .slice bo A.length bc] w fun e w' => e = .returned (.bool true) ∧ Below w.heap.size w w' := by
  obtain ⟨n, hn⟩ : ∃ n, A.length = n := ⟨_, rfl⟩
  rw [hn] at hl ⊢
  have HN := hid hn
  clear hn
  go_enter Tryd.func11, Tryd.ntmps11
  go_wp2_with fail
  go_loopw [5] (fun s5 wr => ∃ i : Nat, s5 = .int .i64 i ∧ i ≤ n ∧ Below w.heap.size w wr) (fun s5 _ => n - (intOf s5).toNat)
  case atStart => exact ⟨0, rfl, by omega, Below.refl _ _⟩
  case round =>
    obtain ⟨wk, hwk⟩ : ∃ wk : World, wk = wr := ⟨_, rfl⟩
    subst hwk
    obtain ⟨i, rfl, hi, hB⟩ := hrel
    by_cases hin : i < n
    · have hinI : (i : Int) < n := by omega
      obtain ⟨u, hu⟩ : ∃ u, A[i]? = some u := ⟨_, List.getElem?_eq_getElem (by rw [HN.out]; exact hin)⟩
      obtain ⟨b, off, rfl, _, a0, a1, a2⟩ := (show Uns wk ao A from SlV.below hA hB).at hu
      obtain ⟨b', off', rfl, _, c0, c1, c2⟩ := (show Uns wk bo A from SlV.below hA2 hB).at hu
      obtain ⟨ua, ub, uc⟩ := u
      simp only at a0 a1 a2 c0 c1 c2
      have hneq : ∀ w', (binOp .neq 34 (.agg #[.int .i64 ua, .int .i64 ub, .int .i64 uc]) (.agg #[.int .i64 ua, .int .i64 ub, .int .i64 uc])).run Tryd.prog w' = .ok (.bool false) w' := fun w' => by
        have := funit_neq ⟨ua, ub, uc⟩ ⟨ua, ub, uc⟩ w'
        simpa [uV] using this
      have k0 := cell_regrown a0
      have k1 := cell_regrown a1
      have k2 := cell_regrown a2
      have l0 := cell_regrown c0
      have l1 := cell_regrown c1
      have l2 := cell_regrown c2
      clear a0 a1 a2 c0 c1 c2 hu
      go_upto_region 6 with fail
      refine wp_region_quiet_below (by kernel_rfl) (by kernel_rfl) ?_
      repeat (first | go_big_quiet_step (fail) | quiet_step (fail))
      refine wpQuiet_nil ?_
      intro _ hw'
      obtain ⟨⟨dq, osq⟩, hw''⟩ := hw'
      subst hw''
      have hB8 := below_regrown wk dq osq
      have HBB := hid (hB.trans (hB8.mono hB.size))
      clear k0 k1 k2 l0 l1 l2 hneq hB8
      go_wp2_with fail
      go_roundw
      case rel => exact ⟨i + 1, by go_num, by omega, HBB.out⟩
      case measure => simp [intOf]; omega
    · have hinI : ¬ (i : Int) < n := by omega
      go_wp2_with fail
      go_ret
      exact ⟨rfl, hB⟩
/-! ### plain -/
theorem uAt_u0 (n : Nat) (i : Int) : uAt (List.replicate n u0) i = u0 := by
  unfold uAt
  rw [List.getD_eq_getElem?_getD, List.getElem?_replicate]
  split <;> rfl
theorem unitOf_u0 (n : Nat) (s : Stp) : unitOf [u0, u0, u0, u0] (List.replicate n u0) s = (u0, 0) := by
  unfold unitOf
  have h4 : ∀ i, uAt [u0, u0, u0, u0] i = u0 := fun i => uAt_u0 4 i
  rw [h4, uAt_u0, uAt_u0]
  repeat' split
  all_goals first | rfl | (exfalso; simp_all)
theorem unitsL_u0 : ∀ (S : List Stp) (n : Nat), unitsL [u0, u0, u0, u0] (List.replicate n u0) S = (List.replicate (n + S.length) u0, 0)
  | [], n => rfl
  | s :: S, n => by
    unfold unitsL
    rw [unitOf_u0, if_pos rfl]
    have : List.replicate n u0 ++ [u0] = List.replicate (n + 1) u0 := by rw [List.replicate_succ']
    rw [this, unitsL_u0 S (n + 1), List.length_cons, Nat.add_assoc, Nat.add_comm 1]
theorem unitsF_u0 {f : Flw} (h : fvB f = true) : unitsF f [u0, u0, u0, u0] = (List.replicate f.steps.length u0, 0) := by
  unfold unitsF
  rw [if_pos ⟨h, rfl, rfl⟩]
  have := unitsL_u0 f.steps 0
  simpa using this
theorem unitsL_take (I : List U) : ∀ (S : List Stp) (own L : List U), unitsL I own S = (L, 0) → L.length = own.length + S.length ∧ L.take own.length = own ∧ ∀ j, j ≤ S.length → unitsL I own (S.take j) = (L.take (own.length + j), 0)
  | [], own, L, h => by
    unfold unitsL at h
    cases h
    refine ⟨rfl, by simp, fun j hj => ?_⟩
    simp at hj
    subst hj
    simp [unitsL]
  | s :: S, own, L, h => by
    unfold unitsL at h
    by_cases h0 : (unitOf I own s).2 = 0
    · rw [if_pos h0] at h
      obtain ⟨h1, h2, h3⟩ := unitsL_take I S _ L h
      have h4 : L.take own.length = own := by
        have := congrArg (List.take own.length) h2
        rw [List.take_take, List.length_append, Nat.min_eq_left (by omega), List.take_append_of_le_length (Nat.le_refl _), List.take_length] at this
        exact this
      refine ⟨by rw [h1]; simp; omega, h4, fun j hj => ?_⟩
      cases j with
      | zero => simp [unitsL, h4]
      | succ j =>
        rw [List.take_succ_cons]
        unfold unitsL
        rw [if_pos h0, h3 j (by simpa using hj)]
        simp only [List.length_append, List.length_cons, List.length_nil]
        rw [show own.length + (0 + 1) + j = own.length + (j + 1) by omega]
    · rw [if_neg h0] at h
      exact absurd (congrArg Prod.snd h) h0
theorem stepsB_take : ∀ (S : List Stp) (M : List Bool) (j : Nat), stepsB M S = true → stepsB M (S.take j) = true
  | [], _, _, _ => by simp [stepsB]
  | s :: S, M, 0, _ => rfl
  | s :: S, M, j + 1, h => by
    rw [stepsB_cons, Bool.and_eq_true] at h
    rw [List.take_succ_cons, stepsB_cons, Bool.and_eq_true]
    exact ⟨h.1, stepsB_take S _ j h.2⟩
/-- the first steps, up to one that has a mask -/
def partF (f : Flw) (k : Nat) : Flw := ⟨f.name, f.ver, f.steps.take (k + 1)⟩
theorem fvB_iff (f : Flw) : fvB f = true ↔ idB f.name.data.toList = true ∧ 1 ≤ f.ver ∧ f.ver ≤ 99 ∧ 1 ≤ f.steps.length ∧ f.steps.length ≤ 40 ∧ stepsB [] f.steps = true ∧ (maskL f.steps).getLast? = some true := by
  unfold fvB
  simp only [Bool.and_eq_true, decide_eq_true_eq, beq_iff_eq]
  constructor
  · rintro ⟨⟨⟨⟨⟨⟨h1, h2⟩, h3⟩, h4⟩, h5⟩, h6⟩, h7⟩
    exact ⟨h1, h2, h3, h4, h5, h6, h7⟩
  · rintro ⟨h1, h2, h3, h4, h5, h6, h7⟩
    exact ⟨⟨⟨⟨⟨⟨h1, h2⟩, h3⟩, h4⟩, h5⟩, h6⟩, h7⟩
theorem part_valid {f : Flw} (h : fvB f = true) {k : Nat} {s : Stp} (hk : f.steps[k]? = some s) (hm : (opr s.op).m = true) : fvB (partF f k) = true := by
  have hkl := (List.getElem?_eq_some_iff.1 hk).1
  rw [fvB_iff] at h ⊢
  obtain ⟨h1, h2, h3, h4, h5, h6, h7⟩ := h
  have hlen : (partF f k).steps.length = k + 1 := by
    unfold partF
    simp only [List.length_take]
    omega
  refine ⟨h1, h2, h3, by rw [hlen]; omega, by rw [hlen]; omega, stepsB_take _ _ _ h6, ?_⟩
  rw [List.getLast?_eq_getElem?, maskL_len, hlen, Nat.add_sub_cancel]
  unfold maskL partF
  rw [List.getElem?_map, List.getElem?_take, if_pos (by omega), hk]
  simp [hm]
theorem part_units {f : Flw} {I L : List U} (h : unitsF f I = (L, 0)) {k : Nat} {s : Stp} (hk : f.steps[k]? = some s) (hm : (opr s.op).m = true) : unitsF (partF f k) I = (L.take (k + 1), 0) ∧ L.length = f.steps.length := by
  have hkl := (List.getElem?_eq_some_iff.1 hk).1
  unfold unitsF at h
  by_cases hc : fvB f = true ∧ I.length = 4 ∧ I.all (fun u => decide (mulE u u0 = 0)) = true
  · rw [if_pos hc] at h
    obtain ⟨h1, -, h3⟩ := unitsL_take I f.steps [] L h
    refine ⟨?_, by simpa using h1⟩
    unfold unitsF
    rw [if_pos ⟨part_valid hc.1 hk hm, hc.2⟩]
    have := h3 (k + 1) (by omega)
    simpa [partF] using this
  · rw [if_neg hc] at h
    exact absurd (congrArg Prod.snd h) (show ¬ (1 : Int) = 0 by decide)
theorem unitsF_few (f : Flw) (I : List U) : (unitsF f I).1.length ≤ 40 := by
  unfold unitsF
  split
  · rename_i h
    cases h0 : (unitsL I [] f.steps).2 == 0 with
    | true =>
      obtain ⟨h1, -, -⟩ := unitsL_take I f.steps [] (unitsL I [] f.steps).1 (Prod.ext rfl (by simpa using h0))
      have := (fvB_parts h.1).2.2.1
      rw [h1]; simpa using this
    | false =>
      have h2 : ∀ (S : List Stp) (own : List U), (unitsL I own S).2 ≠ 0 → (unitsL I own S).1 = [] := by
        intro S
        induction S with
        | nil => intro own h; exact absurd rfl h
        | cons s S ih =>
          intro own h
          unfold unitsL at h ⊢
          by_cases h1 : (unitOf I own s).2 = 0
          · rw [if_pos h1] at h ⊢; exact ih _ h
          · rw [if_neg h1]
      rw [h2 f.steps [] (by simpa using h0)]
      simp
  · simp
end Go.Proofs.YtogcnmjipfllaaaDoor
