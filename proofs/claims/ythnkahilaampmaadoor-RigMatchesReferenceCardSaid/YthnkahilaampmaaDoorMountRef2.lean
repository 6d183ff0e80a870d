/- mount: the reference's Move; the first of the least -/
import Derived.Test.YthnkahilaampmaaDoorMountRef
namespace Go.Proofs.YthnkahilaampmaaDoor
open Go.RowKit

structure FM (g : Nat → Int) (k b : Nat) : Prop where
  lt : b < k
  le : ∀ i, i < k → g b ≤ g i
  first : ∀ i, i < b → g b < g i
theorem FM.start (g : Nat → Int) : FM g 1 0 := ⟨by omega, fun i h => by (have e : i = 0 := by omega); subst e; exact Int.le_refl _, fun i h => by omega⟩
theorem FM.less {g : Nat → Int} {k b : Nat} (h : FM g k b) (hl : g k < g b) : FM g (k + 1) k :=
  ⟨by omega, fun i hi => by
    by_cases e : i = k
    · subst e; omega
    · have := h.le i (by omega); omega, fun i hi => by have := h.le i hi; omega⟩
theorem FM.keep {g : Nat → Int} {k b : Nat} (h : FM g k b) (hl : ¬ g k < g b) : FM g (k + 1) b :=
  ⟨by have := h.lt; omega, fun i hi => by
    by_cases e : i = k
    · subst e; omega
    · exact h.le i (by omega), h.first⟩

theorem fm_plan (at_ c : Int) (cs : List Int) (b : Nat) (p : Int) (ha : -48 ≤ at_ ∧ at_ ≤ 48) (hcs : ∀ x ∈ c :: cs, 0 ≤ x ∧ x < 32) (hl : cs.length < 1000)
    (h : FM (fun i => max (at_ - (reachL c).getD i 0) ((reachL c).getD i 0 - at_) + lenF cs ((reachL c).getD i 0)) (reachL c).length b) (hp : (reachL c)[b]? = some p) :
    planL at_ (c :: cs) = p :: planL p cs ∧ max (at_ - p) (p - at_) + lenF cs p = lenF (c :: cs) at_ ∧ (-48 ≤ p ∧ p ≤ 48) := by
  have hpd : (reachL c).getD b 0 = p := by rw [List.getD, hp]; rfl
  obtain ⟨q, hq, hqm, hqe⟩ := step_found c cs at_ ha hcs hl
  obtain ⟨i, hi, hie⟩ := List.getElem_of_mem hqm
  have hle := h.le i hi
  have hid : (reachL c).getD i 0 = q := by rw [List.getD, List.getElem?_eq_getElem hi, hie]; rfl
  simp only [hpd, hid] at hle
  have hlb : lenF (c :: cs) at_ ≤ max (at_ - p) (p - at_) + lenF cs p := leastBy_mem (lenF cs) at_ (reachL c) p (List.mem_of_getElem? hp)
  have he : max (at_ - p) (p - at_) + lenF cs p = lenF (c :: cs) at_ := by omega
  refine ⟨planL_hit at_ c p cs b hp (fun i hi q hq => ?_) (by simpa using he), he, reachL_mem c p (List.mem_of_getElem? hp)⟩
  have := h.first i hi
  have hid : (reachL c).getD i 0 = q := by rw [List.getD, hq]; rfl
  simp only [hpd, hid] at this
  rw [beq_eq_false_iff_ne]
  omega

set_option maxHeartbeats 800000 in
theorem rmove_yes (at0 c : Int) (w : World) (hk : planOk at0 [c] = true) :
    Calls Tryd.prog 24 #[.int .i64 at0, .int .i64 c] w fun e w' => e = .returned (.tuple #[.int .i64 ((planL at0 [c]).headD 0), .int .i64 (lenF [c] at0), .int .i64 0]) ∧ Below w.heap.size w w' := by
  obtain ⟨⟨ha0, ha1⟩, h2, h3⟩ := (planOk_iff _ _).1 hk
  obtain ⟨h0, h1⟩ := h3 c (by simp)
  have hIs : isB at0 = true := by unfold isB; simp; omega
  have hne := reachL_ne c h0 h1
  have hpos : 0 < (reachL c).length := List.length_pos_iff.2 hne
  have HF := hid (fun b p hfm hp => fm_plan at0 c [] b p ⟨ha0, ha1⟩ h3 (by simp) hfm hp)
  clear h2 h3 hk
  go_enter Tryd.func24, Tryd.ntmps24
  go_wp2_with fail
  refine (rreach_any c _ h0 h1).mono ?_
  rintro e w6 ⟨v, rfl, hm6⟩
  obtain ⟨g6, cap6, cur6, rfl, hg6, hcur6, hcap6, hmax6, hrd6⟩ := hm6.open (by simpa using hne)
  have hrl : ((reachL c).map (Value.int .i64)).length = (reachL c).length := by simp
  rw [hrl] at hcap6 hrd6 ⊢
  obtain ⟨p0, hp0⟩ : ∃ p, (reachL c)[0]? = some p := ⟨_, List.getElem?_eq_getElem hpos⟩
  have hpc0 : w6.cell? ⟨g6, 0, none⟩ = some (.int .i64 p0) := by rw [hcur6.cell, hrd6 0 hpos]; simp [hp0]
  go_wp2_with (first | (go_at_call 29; refine (ris_any _ _).mono ?_; rintro e w' ⟨rfl, rfl⟩))
  go_loopw [9, 10] (fun s9 s10 wr => ∃ (k b : Nat) (p : Int), s10 = .int .i64 k ∧ s9 = .int .i64 p ∧ k ≤ (reachL c).length ∧ (reachL c)[b]? = some p ∧ wr = w6 ∧ FM (fun i => max (at0 - (reachL c).getD i 0) ((reachL c).getD i 0 - at0) + lenF [] ((reachL c).getD i 0)) k b) (fun _ s10 _ => (reachL c).length - (intOf s10).toNat)
  case atStart => exact ⟨1, 0, p0, rfl, rfl, by omega, hp0, rfl, FM.start _⟩
  case round =>
    obtain ⟨k, b, p, rfl, rfl, hk, hp, rfl, hfm⟩ := hrel
    obtain ⟨hpm1, hpm2⟩ := reachL_mem c p (List.mem_of_getElem? hp)
    have hpd : (reachL c).getD b 0 = p := by rw [List.getD, hp]; rfl
    unfold maxLen at hmax6
    by_cases hlt : k < (reachL c).length
    · obtain ⟨q, hq⟩ : ∃ q, (reachL c)[k]? = some q := ⟨_, List.getElem?_eq_getElem hlt⟩
      have hqd : (reachL c).getD k 0 = q := by rw [List.getD, hq]; rfl
      obtain ⟨hqm1, hqm2⟩ := reachL_mem c q (List.mem_of_getElem? hq)
      have hpc : wr.cell? ⟨g6, k, none⟩ = some (.int .i64 q) := by rw [hcur6.cell, hrd6 k hlt]; simp [hq]
      have hI2 : (k : Int) < ((reachL c).length : Int) := by omega
      have hd := fun w' => turned (rdist_any at0 q (by omega) (by omega) (by omega) (by omega) w')
      have hd2 := fun w' => turned (rdist_any at0 p (by omega) (by omega) (by omega) (by omega) w')
      have HD := hid hd
      have HD2 := hid hd2
      have Hq := hid hq
      have Hp := hid hp
      clear hd hd2 hq hp hp0
      by_cases hless : max (at0 - q) (q - at0) < max (at0 - p) (p - at0)
      · have HN := hid (hfm.less (by simp only [hpd, hqd, lenF]; omega))
        clear hfm
        go_wp2_with fail
        refine (HD.out _).mono ?_
        rintro e w' ⟨rfl, rfl⟩
        go_wp2_with fail
        refine (HD2.out _).mono ?_
        rintro e w' ⟨rfl, rfl⟩
        go_wp2_with fail
        go_roundw
        case rel => exact ⟨k + 1, k, q, by go_num, rfl, by omega, Hq.out, trivial, HN.out⟩
        case measure => simp [intOf]; omega
      · have HN := hid (hfm.keep (by simp only [hpd, hqd, lenF]; omega))
        clear hfm
        go_wp2_with fail
        refine (HD.out _).mono ?_
        rintro e w' ⟨rfl, rfl⟩
        go_wp2_with fail
        refine (HD2.out _).mono ?_
        rintro e w' ⟨rfl, rfl⟩
        go_wp2_with fail
        go_roundw
        case rel => exact ⟨k + 1, b, p, by go_num, rfl, by omega, Hp.out, trivial, HN.out⟩
        case measure => simp [intOf]; omega
    · have hI2 : ¬ (k : Int) < ((reachL c).length : Int) := by omega
      have hkl : k = (reachL c).length := by omega
      rw [hkl] at hfm
      obtain ⟨e1, e2, _⟩ := HF.out b p hfm hp
      have hpl : (planL at0 [c]).headD 0 = p := by rw [e1]; rfl
      have hlf : lenF [c] at0 = max (at0 - p) (p - at0) := by rw [← e2]; simp [lenF]
      have hd2 := fun w' => turned (rdist_any at0 p (by omega) (by omega) (by omega) (by omega) w')
      have HD2 := hid hd2
      have HP := hid hpl
      have HL := hid hlf
      clear hd2 e1 e2 hpl hlf hkl hfm hp
      go_wp2_with fail
      refine (HD2.out _).mono ?_
      rintro e w' ⟨rfl, rfl⟩
      go_wp2_with fail
      go_ret3
      refine ⟨?_, hm6.below⟩
      rw [HP.out, HL.out]; rfl
theorem rmove_not (at0 c : Int) (w : World) (hk : planOk at0 [c] = false) :
    Calls Tryd.prog 24 #[.int .i64 at0, .int .i64 c] w fun e w' => e = .returned (.tuple #[.int .i64 0, .int .i64 0, .int .i64 1]) ∧ Below w.heap.size w w' := by
  by_cases hc : 0 ≤ c ∧ c < 32
  · obtain ⟨h0, h1⟩ := hc
    have hIs : isB at0 = false := by
      cases hi : isB at0 with
      | false => rfl
      | true =>
        have : colB c = true := by unfold colB; simp; omega
        simp [planOk, hi, this] at hk
    clear hk
    go_enter Tryd.func24, Tryd.ntmps24
    go_wp2_with (first | (go_at_call 29; refine (ris_any _ _).mono ?_; rintro e w' ⟨rfl, rfl⟩) | (go_at_call 28; refine (rreach_any c _ h0 h1).mono ?_; rintro e w6 ⟨v, rfl, hm6⟩))
    go_ret3
    exact ⟨rfl, hm6.below⟩
  · have HC := hid hc
    clear hc hk
    go_enter Tryd.func24, Tryd.ntmps24
    go_wp2_with (first | (go_at_call 28; refine (rreach_no _ _ HC.out).mono ?_; rintro e w' ⟨rfl, rfl⟩))
    go_ret3
    exact ⟨rfl, Below.refl _ _⟩
end Go.Proofs.YthnkahilaampmaaDoor
