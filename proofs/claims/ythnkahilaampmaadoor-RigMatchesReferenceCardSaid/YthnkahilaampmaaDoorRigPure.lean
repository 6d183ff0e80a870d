/- rig: what Prepare gives, plainly -/
import Derived.Test.YthnkahilaampmaaDoorRigPrep
namespace Go.Proofs.YthnkahilaampmaaDoor

theorem ok_parts {t : Tel} {r : RigT} {c f : Int} (h : (validB t r && flB t f && colB c) = true) : validB t r = true ∧ flB t f = true ∧ colB c = true ∧ planOk r.at_ [c] = true := by
  simp only [Bool.and_eq_true] at h
  obtain ⟨⟨hv, hf⟩, hc⟩ := h
  obtain ⟨a1, a2, _, _⟩ := validB_at hv
  exact ⟨hv, hf, hc, (planOk_iff _ _).2 ⟨⟨a1, a2⟩, by simp, fun x hx => by simp at hx; subst hx; exact (colB_iff _).1 hc⟩⟩
theorem prep_pd {c : Int} {r : RigT} (h : planOk r.at_ [c] = true) : prepD c r = max (r.at_ - prepP c r) (prepP c r - r.at_) ∧ -48 ≤ prepP c r ∧ prepP c r ≤ 48 ∧ prepP c r ∈ reachL c := by
  obtain ⟨h1, h2, h3⟩ := (planOk_iff _ _).1 h
  obtain ⟨p, e, hm, hd, hb⟩ := planL_cons c [] r.at_ h1 h3 (by simp)
  have hp : prepP c r = p := by unfold prepP; rw [e]; rfl
  rw [hp]
  refine ⟨?_, hb.1, hb.2, hm⟩
  unfold prepD
  rw [← hd]
  simp [lenF]
/-- it stays where it is -/
theorem prep_stay {c : Int} {r : RigT} (h : planOk r.at_ [c] = true) (st : Bool) (f : Int) : prepP c ⟨prepP c r, f, st⟩ = prepP c r ∧ prepD c ⟨prepP c r, f, st⟩ = 0 := by
  obtain ⟨h1, h2, h3, h4⟩ := prep_pd h
  obtain ⟨a1, a2, a3⟩ := (planOk_iff _ _).1 h
  have hk : planOk (prepP c r) [c] = true := (planOk_iff _ _).2 ⟨⟨h2, h3⟩, a2, a3⟩
  obtain ⟨b1, b2, b3, b4⟩ := prep_pd (c := c) (r := ⟨prepP c r, f, st⟩) hk
  have hle : prepD c ⟨prepP c r, f, st⟩ ≤ 0 := by
    have := leastBy_mem (lenF []) (prepP c r) (reachL c) (prepP c r) h4
    simpa [prepD, lenF] using this
  dsimp only at b1
  constructor <;> omega
theorem prepP_stuck (c : Int) (r : RigT) (b : Bool) : prepP c ⟨r.at_, r.filter, b⟩ = prepP c r ∧ prepD c ⟨r.at_, r.filter, b⟩ = prepD c r := ⟨rfl, rfl⟩
theorem validB_mk {t : Tel} {r : RigT} (h : validB t r = true) (a f : Int) (b : Bool) (ha : -48 ≤ a ∧ a ≤ 48) (hf : flB t f = true) : validB t ⟨a, f, b⟩ = true := by
  obtain ⟨_, _, ht, _⟩ := validB_at h
  unfold validB
  simp [ht, hf, ha.1, ha.2]
theorem turnV_same (t : Tel) (a : Int) (h : 1 ≤ t.filters) : turnV t a a = 0 := by unfold turnV; omega
/-- the cost is nought for the same filter alone -/
theorem turnV_zero {t : Tel} {a b : Int} (h : 1 ≤ t.filters) (ha : 0 ≤ a ∧ a ≤ t.filters - 1) (hb : 0 ≤ b ∧ b ≤ t.filters - 1) : 0 ≤ turnV t a b ∧ (turnV t a b = 0 → a = b) := by unfold turnV; omega

/-- without an error -/
theorem prep_zero {t : Tel} {r : RigT} {c f : Int} {x : RigT} {n : Int} (h : prepR t r c f = (x, n, 0)) :
    (validB t r && flB t f && colB c) = true ∧ x = ⟨prepP c r, f, r.stuck⟩ ∧ n = max (t.speed * prepD c r) (turnV t r.filter f) ∧ n ≤ 60 ∧ 0 ≤ n ∧ (n = 0 ↔ prepP c r = r.at_ ∧ f = r.filter) ∧ (f = r.filter ∨ r.stuck = false) := by
  unfold prepR at h
  split at h
  · rename_i hok
    obtain ⟨hv, hf, hc, hk⟩ := ok_parts hok
    obtain ⟨_, _, htl, hrf⟩ := validB_at hv
    obtain ⟨f1, f2⟩ := teleB_filters htl
    obtain ⟨s1, s2⟩ := teleB_speed htl
    obtain ⟨d1, d2, d3, _⟩ := prep_pd hk
    have hd0 : 0 ≤ prepD c r := by omega
    obtain ⟨z1, z2⟩ := turnV_zero f1 (flB_bd' hrf) (flB_bd' hf)
    split at h
    · rename_i hs
      obtain ⟨hs1, hs2⟩ := hs
      simp only [Prod.mk.injEq] at h
      obtain ⟨rfl, rfl, _⟩ := h
      have hd : prepD c r = 0 := by omega
      have ht0 : turnV t r.filter f = 0 := by rw [hs2]; exact turnV_same t _ f1
      refine ⟨hok, rfl, by rw [hd, ht0]; simp, by omega, by omega, ⟨fun _ => ⟨hs1, hs2⟩, fun _ => rfl⟩, .inl hs2⟩
    · rename_i hs
      split at h
      · simp at h
      · rename_i hst
        split at h
        · simp at h
        · rename_i h60
          simp only [Prod.mk.injEq] at h
          obtain ⟨rfl, rfl, _⟩ := h
          have hm : 0 ≤ t.speed * prepD c r := Int.mul_nonneg (by omega) hd0
          refine ⟨hok, rfl, rfl, by omega, by omega, ⟨fun h0 => ?_, fun h0 => absurd h0 hs⟩, ?_⟩
          · have hd1 : t.speed * prepD c r = 0 := by omega
            have ht1 : turnV t r.filter f = 0 := by omega
            rcases Int.mul_eq_zero.1 hd1 with e | e
            · omega
            · exact ⟨by omega, (z2 ht1).symm⟩
          · cases hb : r.stuck with
            | false => exact .inr rfl
            | true =>
              left
              rcases Decidable.em (f = r.filter) with e | e
              · exact e
              · exact absurd ⟨hb, e⟩ hst
  · simp at h
theorem prep_err {t : Tel} {r : RigT} {c f : Int} (h : (prepR t r c f).2.2 ≠ 0) : prepR t r c f = (rig0, 0, (prepR t r c f).2.2) ∧ ((prepR t r c f).2.2 = 1 ∨ (prepR t r c f).2.2 = 20 ∨ (prepR t r c f).2.2 = 21) := by
  unfold prepR at *
  split at h
  · split at h
    · exact absurd rfl h
    · split at h
      · simp [*]
      · split at h
        · simp [*]
        · exact absurd rfl h
  · simp [*]
end Go.Proofs.YthnkahilaampmaaDoor
