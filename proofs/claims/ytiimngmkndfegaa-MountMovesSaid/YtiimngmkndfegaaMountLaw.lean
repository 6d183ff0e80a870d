import Derived.Test.YtiimngmkndfegaaMountFacts
namespace Go.Proofs.Ytiimngmkndfegaa
open Go.RowKit

theorem position_any (r : Int) (w : World) (h0 : 0 ≤ r) (h1 : r ≤ 255) : Calls Try.prog 16 #[.int .u8 r] w fun e w' => e = .returned (.int .i64 (r % 97 - 48)) ∧ w = w' := by
  go_enter Try.func16, Try.ntmps16
  go_wp2
  go_ret
  exact ⟨rfl, rfl⟩
theorem ldist_any (a b : Int) (ha : -1000 ≤ a) (hb : -1000 ≤ b) (ha' : a ≤ 1000) (hb' : b ≤ 1000) (w : World) : Calls Try.prog 17 #[.int .i64 a, .int .i64 b] w fun e w' => e = .returned (.int .i64 (max (a-b) (b-a))) ∧ w = w' := by
  go_enter Try.func17, Try.ntmps17
  go_wp2
  all_goals go_ret
  all_goals exact ⟨ret_int (by omega), rfl⟩
theorem around_any (a b : Int) (ha : -1000 ≤ a) (hb : -1000 ≤ b) (ha' : a ≤ 1000) (hb' : b ≤ 1000) (w : World) : Calls Try.prog 18 #[.int .i64 a, .int .i64 b] w fun e w' => e = .returned (.int .i64 (aroundF a b)) ∧ w = w' := by
  have hd0 : 0 ≤ max (a - b) (b - a) := by omega
  go_enter Try.func18, Try.ntmps18
  go_wp2_with (go_at_call 17; refine (ldist_any _ _ ha hb ha' hb' _).mono ?_; rintro e w' ⟨rfl, rfl⟩)
  all_goals go_ret
  all_goals exact ⟨ret_int (by unfold aroundF; omega), rfl⟩

theorem mem_take_succ (p x : Int) (l : List Int) (j : Nat) (hx : l[j]? = some x) (f t : Bool) (hf : decide (p ∈ l.take j) = f) (ht : (x == p) = t) : decide (p ∈ l.take (j + 1)) = (f || t) := by
  subst hf ht
  rw [take_snoc' l j x hx]
  simp only [List.mem_append, List.mem_singleton]
  by_cases h1 : p ∈ l.take j
  · rw [decide_eq_true (Or.inl h1), decide_eq_true h1]; rfl
  · by_cases h2 : x = p
    · rw [decide_eq_true (Or.inr h2.symm), decide_eq_false h1, beq_iff_eq.2 h2]; rfl
    · rw [decide_eq_false (fun h => h.elim h1 (fun e => h2 e.symm)), decide_eq_false h1, beq_eq_false_iff_ne.2 h2]; rfl

set_option maxHeartbeats 6000000 in
set_option maxRecDepth 100000 in
theorem moves_walk (raw c o : Int) (w : World) (r0 : 0 ≤ raw) (r1 : raw ≤ 255) (c0 : 0 ≤ c) (c1 : c ≤ 255) :
    Calls Try.prog 4 #[.int .u8 raw, .int .u8 c, .int .u8 o] w fun e w' => e = .returned (.bool true) ∧ Below w.heap.size w w' := by
  obtain ⟨at_, hat⟩ : ∃ at_, raw % 97 - 48 = at_ := ⟨_, rfl⟩
  obtain ⟨k, hk⟩ : ∃ k, c % 32 = k := ⟨_, rfl⟩
  have ha : -48 ≤ at_ ∧ at_ ≤ 48 := by omega
  have hk0 : 0 ≤ k := by omega
  have hk1 : k < 32 := by omega
  have HAT := hid hat
  have HK := hid hk
  clear hat hk
  obtain ⟨p, hp, hpm, hd, hall⟩ := move_spec at_ k ha hk0 hk1
  have hnear := move_near at_ k ha hk0 hk1
  have haround := around_le at_ k p (reachL_col k p hk0 hk1 hpm).1
  obtain ⟨p0, p1⟩ := reachL_mem k p hpm
  have hpok : planOk at_ [k] = true := (planOk_iff _ _).2 ⟨ha, by simp, by simpa using ⟨hk0, hk1⟩⟩
  have hmv := fun w => move_val at_ k p (lenF [k] at_) w hpok (by rw [hp]; rfl) rfl
  rw [← hd] at haround
  generalize hdd : lenF [k] at_ = d at *
  have HMV := hid hmv
  clear hmv hpok hp
  have Hall := hid hall
  clear hall hdd
  obtain ⟨l, hl⟩ : ∃ l, reachL k = l := ⟨_, rfl⟩
  have hln := reachL_len k hk0 hk1
  have hget := reachL_get k hk0 hk1
  rw [hl] at hln hget hpm
  have hrb := rlen_bd k
  rw [← hln] at hrb hget
  obtain ⟨hl3, hl4⟩ := hrb
  have HRY := hid (fun w => reach_yes k l w hk0 hk1 hl)
  have HL := hid hln
  have HG := hid hget
  have HLL := hid hl
  have HD := hid hd
  clear hln hget hl hd
  have hx0 : l[0]? = some (rbase k) := by simpa using HG.out 0 (by omega)
  have hx1 : l[l.length - 1]? = some (rbase k + 32 * ((l.length - 1 : Nat) : Int)) := HG.out _ (by omega)
  have hrb1 : rbase k - 32 < -48 ∧ 48 < rbase k + 32 * ((l.length - 1 : Nat) : Int) + 32 ∧ -48 ≤ rbase k ∧ rbase k + 32 * ((l.length - 1 : Nat) : Int) ≤ 48 := by
    rw [HL.out]; unfold rbase rlen
    by_cases h16 : k = 16
    · subst h16; simp
    · rw [if_neg h16]; split <;> simp <;> omega
  go_enter Try.func4, Try.ntmps4
  go_wp2_with fail
  refine (head_any _).mono ?_
  rintro e w1 ⟨rfl, hB1⟩
  go_wp2_with (go_at_call 16; refine (position_any _ _ r0 r1).mono ?_; rintro e w' ⟨rfl, rfl⟩)
  rw [HAT.out, HK.out]
  refine (HRY.out _).mono ?_
  rintro e w2 ⟨ao, cap, rfl, hs2, hB2⟩
  go_wp2_with fail
  refine (HMV.out _).mono ?_
  rintro e w3 ⟨rfl, hB3⟩
  have hs3 := hs2.below hB3
  obtain ⟨b, off, rfl, hb, hxc⟩ := hs3.cell 0 _ hx0
  obtain ⟨b', off', e1, hb', hyc⟩ := hs3.cell (l.length - 1) _ hx1
  simp only [Option.some.injEq, Addr.mk.injEq, and_true] at e1
  obtain ⟨rfl, rfl⟩ := e1
  rw [Nat.add_zero] at hxc
  generalize rbase k + 32 * ((l.length - 1 : Nat) : Int) = y1 at *
  generalize hy0 : rbase k = y0 at *
  have HY0 := hid hy0
  clear hx0 hx1 hy0
  obtain ⟨q1, q2, q3, q4⟩ := hrb1
  have hI1 : ¬ (l.length : Int) < 3 := by omega
  have hI2 : ¬ 4 < (l.length : Int) := by omega
  go_wp2
  go_loopw [15, 16] (fun s15 s16 wr => ∃ j : Nat, s16 = .int .i64 j ∧ j ≤ l.length ∧ s15 = .bool (decide (p ∈ l.take j)) ∧ Chg (fun _ => False) w3 wr) (fun _ s16 _ => l.length - (intOf s16).toNat)
  case atStart => exact ⟨0, rfl, by omega, by simp, Chg.refl _ _⟩
  case round =>
    obtain ⟨j, rfl, hj, rfl, hch⟩ := hrel
    have hBr : Below w3.heap.size w3 wr := hch.toBelow (Nat.le_refl _) (fun _ h => h.elim)
    by_cases hlt : j < l.length
    · have hI3 : (j : Int) < (l.length : Int) := by omega
      obtain ⟨x, hx⟩ : ∃ x, l[j]? = some x := ⟨_, List.getElem?_eq_getElem hlt⟩
      have hxm : x ∈ reachL k := by rw [HLL.out]; exact List.mem_of_getElem? hx
      obtain ⟨x0, x1⟩ := reachL_mem k x hxm
      have hxc2 : ((x + 64) % 32 != k) = false := by rw [(reachL_col k x hk0 hk1 hxm).2]; simp
      obtain ⟨a1, a2⟩ := Hall.out x hxm
      have hxcell : wr.cell? ⟨b, off + j, none⟩ = some (.int .i64 x) := by
        obtain ⟨b2, off2, e2, _, h2⟩ := (hs3.below hBr).cell j x hx
        simp only [Option.some.injEq, Addr.mk.injEq, and_true] at e2
        obtain ⟨rfl, rfl⟩ := e2
        exact h2
      have HD2 := hid (fun w => ldist_any at_ x (by omega) (by omega) (by omega) (by omega) w)
      generalize max (at_ - x) (x - at_) = D at *
      have hI4 : ¬ D < d := by omega
      have hg1 : decide (x < -48) = false := by simp; omega
      have hg2 : decide (48 < x) = false := by simp; omega
      have HX := hid hx
      have hxe := Option.some.inj (hx.symm.trans (HG.out j hlt))
      have A2 := hid a2
      clear hx a2
      obtain ⟨f, hf⟩ : ∃ f, decide (p ∈ l.take j) = f := ⟨_, rfl⟩
      have HF := hid hf
      rw [hf]
      clear hf
      have hpc : 0 < j → wr.cell? ⟨b, off + (j - 1), none⟩ = some (.int .i64 (x - 32)) := fun hz => by
        have hpr : l[j - 1]? = some (x - 32) := by
          rw [HG.out (j - 1) (by omega), hxe]; congr 1; omega
        obtain ⟨b2, off2, e2, _, hpc⟩ := (hs3.below hBr).cell (j - 1) _ hpr
        simp only [Option.some.injEq, Addr.mk.injEq, and_true] at e2
        obtain ⟨rfl, rfl⟩ := e2
        exact hpc
      have HPC := hid hpc
      clear hpc hxe
      have hI5 : (D == d) = true → ¬ x < p := fun h => by have := A2.out (by simpa using h); omega
      have HI5 := hid hI5
      clear hI5
      clear hxc hyc hB1 hs2 hB2 hpm hs3 hB3 hBr hb hb' r0 r1 c0 c1 ha
      cases hz : decide (0 < j)
      all_goals have HZ := hid hz
      all_goals try have hpc' := HPC.out (of_decide_eq_true HZ.out)
      all_goals try have hz1 := of_decide_eq_true HZ.out
      all_goals clear HPC
      all_goals
        go_wp2
        refine wp_region_quiet_all (by kernel_rfl) (by kernel_rfl) ?_
        repeat (go_big_quiet_step (fail))
        refine wpQuiet_end ?_
        clear hz HZ
        cases f
        all_goals cases hxp : (x == p)
        all_goals have HFN := hid (mem_take_succ p x l j HX.out _ _ HF.out hxp)
        all_goals clear HF
        all_goals go_wp2_with fail
        all_goals cases hdd : (D == d)
        all_goals have HDD := hid hdd
        all_goals try have hI6 := HI5.out HDD.out
        all_goals clear HI5
        all_goals go_wp2_with (go_at_call 17; refine (HD2.out _).mono ?_; rintro e w' ⟨rfl, rfl⟩)
        all_goals go_roundw
        all_goals first | exact ⟨j + 1, by go_num, by omega, by rw [HFN.out]; rfl, hch.drew⟩ | (simp [intOf] <;> omega)
    · obtain rfl : j = l.length := by omega
      rw [List.take_length, decide_eq_true hpm]
      have HD3 := hid (fun w => ldist_any at_ p (by omega) (by omega) (by omega) (by omega) w)
      rw [← HD.out] at HD3
      have HA := hid (fun w => around_any at_ k (by omega) (by omega) (by omega) (by omega) w)
      generalize aroundF at_ k = r at *
      go_wp2_with (first | (go_at_call 17; refine (HD3.out _).mono ?_; rintro e w' ⟨rfl, rfl⟩) | (go_at_call 18; refine (HA.out _).mono ?_; rintro e w' ⟨rfl, rfl⟩))
      go_ret
      exact ⟨rfl, bthen hB1 (bthen hB2 (bthen hB3 hBr))⟩
end Go.Proofs.Ytiimngmkndfegaa
