import Derived.Test.YthnkahilaampmaaDoorMountPlan2
namespace Go.Proofs.YthnkahilaampmaaDoor
open Go.RowKit

theorem Mine.sl {B : Nat} {w0 w : World} {E : TypeId} {v : Value} {l : List Int} (h : Mine B w0 w E v (l.map (Value.int .i64))) : ∃ ao cap, v = .slice ao l.length cap ∧ SlI w ao l := by
  by_cases hl : l = []
  · subst hl
    rcases h.own.2 with ⟨e, _⟩ | ⟨g, cap, cur, hv, _⟩
    · exact ⟨none, 0, e, by simp, by simp⟩
    · exact ⟨_, cap, hv, by simp, by simp⟩
  · obtain ⟨g, cap, cur, hv, hg, hb, hc1, hc2, hrd⟩ := h.open (by simpa using hl)
    refine ⟨some ⟨g, 0, none⟩, cap, by simpa using hv, by simpa using Nat.le_trans hc1 hc2, fun i x hi => ⟨g, 0, rfl, hb.lt, ?_⟩⟩
    have hlt : i < l.length := (List.getElem?_eq_some_iff.1 hi).1
    rw [hb.cell, Nat.zero_add, hrd i (by simpa using hlt)]
    simp [hi]

theorem SlI_lit (w : World) (T : TypeId) (l : List Int) (hl : l.length ≤ maxLen) : SlI (w.alloc (.cells (l.map (Value.int .i64)).toArray T)) (some ⟨w.heap.size, 0, none⟩) l :=
  ⟨hl, fun i x hi => ⟨w.heap.size, 0, rfl, by simp, by
    rw [World.cell?_alloc_at _ _ _ _ rfl]
    simp [hi]⟩⟩
theorem SlI_nil (w : World) (ao : Option Addr) : SlI w ao [] := ⟨by simp, by simp⟩

/-! the least is reached -/
theorem leastBy_mem (on : Int → Int) (at_ : Int) (ps : List Int) (p : Int) (h : p ∈ ps) : leastBy on at_ ps ≤ max (at_ - p) (p - at_) + on p := by
  suffices hh : ∀ (l : List Int) (m : Int), l.foldl (fun m p => min m (max (at_ - p) (p - at_) + on p)) m ≤ m ∧ (p ∈ l → l.foldl (fun m p => min m (max (at_ - p) (p - at_) + on p)) m ≤ max (at_ - p) (p - at_) + on p) from (hh ps _).2 h
  intro l
  induction l with
  | nil => intro m; simp
  | cons q l ih =>
    intro m
    simp only [List.foldl_cons]
    obtain ⟨i1, i2⟩ := ih (min m (max (at_ - q) (q - at_) + on q))
    refine ⟨by omega, fun hm => ?_⟩
    rcases List.mem_cons.1 hm with rfl | hm
    · omega
    · exact i2 hm
theorem leastBy_at (on : Int → Int) (at_ : Int) (ps : List Int) (h : leastBy on at_ ps < 1073741824) : ∃ p ∈ ps, max (at_ - p) (p - at_) + on p = leastBy on at_ ps := by
  suffices hh : ∀ (l : List Int) (m : Int), l.foldl (fun m p => min m (max (at_ - p) (p - at_) + on p)) m < m → ∃ p ∈ l, max (at_ - p) (p - at_) + on p = l.foldl (fun m p => min m (max (at_ - p) (p - at_) + on p)) m from hh ps _ h
  intro l
  induction l with
  | nil => intro m hm; simp at hm
  | cons q l ih =>
    intro m hm
    simp only [List.foldl_cons] at hm ⊢
    by_cases hc : l.foldl (fun m p => min m (max (at_ - p) (p - at_) + on p)) (min m (max (at_ - q) (q - at_) + on q)) < min m (max (at_ - q) (q - at_) + on q)
    · obtain ⟨p, hp, e⟩ := ih _ hc
      exact ⟨p, by simp [hp], e⟩
    · have hle : l.foldl (fun m p => min m (max (at_ - p) (p - at_) + on p)) (min m (max (at_ - q) (q - at_) + on q)) ≤ min m (max (at_ - q) (q - at_) + on q) := by
        clear hm hc ih
        generalize min m (max (at_ - q) (q - at_) + on q) = k
        induction l generalizing k with
        | nil => simp
        | cons r l ih => simp only [List.foldl_cons]; have := ih (min k (max (at_ - r) (r - at_) + on r)); omega
      exact ⟨q, by simp, by omega⟩

theorem lenF_small (cs : List Int) (a : Int) (ha : -48 ≤ a ∧ a ≤ 48) (hcs : ∀ c ∈ cs, 0 ≤ c ∧ c < 32) : lenF cs a ≤ 96 * (cs.length : Int) := by
  induction cs generalizing a with
  | nil => simp [lenF]
  | cons c cs ih =>
    obtain ⟨h0, h1⟩ := hcs c (by simp)
    obtain ⟨p, hp⟩ := List.exists_mem_of_ne_nil _ (reachL_ne c h0 h1)
    have hb := reachL_mem c p hp
    have h2 := leastBy_mem (lenF cs) a (reachL c) p hp
    have h3 := ih p hb (fun x hx => hcs x (by simp [hx]))
    simp only [lenF, List.length_cons]
    push_cast
    omega

/-- a step of the plan is always found -/
theorem step_found (c : Int) (cs : List Int) (a : Int) (ha : -48 ≤ a ∧ a ≤ 48) (hcs : ∀ x ∈ c :: cs, 0 ≤ x ∧ x < 32) (hl : cs.length < 1000) :
    ∃ p, (reachL c).find? (fun p => max (a - p) (p - a) + lenF cs p == lenF (c :: cs) a) = some p ∧ p ∈ reachL c ∧ max (a - p) (p - a) + lenF cs p = lenF (c :: cs) a := by
  have hs := lenF_small (c :: cs) a ha hcs
  simp only [List.length_cons] at hs
  obtain ⟨p, hp, e⟩ := leastBy_at (lenF cs) a (reachL c) (by simp only [lenF] at hs; push_cast at hs; omega)
  cases hf : (reachL c).find? (fun p => max (a - p) (p - a) + lenF cs p == lenF (c :: cs) a) with
  | none =>
    rw [List.find?_eq_none] at hf
    exact absurd e (by have := hf p hp; simpa [lenF] using this)
  | some q => exact ⟨q, rfl, List.mem_of_find?_eq_some hf, by have := List.find?_some hf; simpa using this⟩

theorem planL_cons (c : Int) (cs : List Int) (a : Int) (ha : -48 ≤ a ∧ a ≤ 48) (hcs : ∀ x ∈ c :: cs, 0 ≤ x ∧ x < 32) (hl : cs.length < 1000) :
    ∃ p, planL a (c :: cs) = p :: planL p cs ∧ p ∈ reachL c ∧ max (a - p) (p - a) + lenF cs p = lenF (c :: cs) a ∧ (-48 ≤ p ∧ p ≤ 48) := by
  obtain ⟨p, h1, h2, h3⟩ := step_found c cs a ha hcs hl
  exact ⟨p, by rw [planL, h1], h2, h3, reachL_mem c p h2⟩

theorem planL_len (cs : List Int) (a : Int) (ha : -48 ≤ a ∧ a ≤ 48) (hcs : ∀ x ∈ cs, 0 ≤ x ∧ x < 32) (hl : cs.length < 1000) : (planL a cs).length = cs.length := by
  induction cs generalizing a with
  | nil => rfl
  | cons c cs ih =>
    obtain ⟨p, h1, _, _, h4⟩ := planL_cons c cs a ha hcs (by simp at hl; omega)
    rw [h1]
    simp only [List.length_cons]
    rw [ih p h4 (fun x hx => hcs x (by simp [hx])) (by simp at hl; omega)]

/-! ### the contracts of Plan and Move in the form that callers take -/
theorem planOk_iff (at0 : Int) (cs : List Int) : planOk at0 cs = true ↔ (-48 ≤ at0 ∧ at0 ≤ 48) ∧ cs.length ≤ 40 ∧ ∀ c ∈ cs, 0 ≤ c ∧ c < 32 := by
  simp [planOk, isB, colB, and_assoc]

theorem plan_any (at0 : Int) (ao : Option Addr) (cap : Nat) (cs : List Int) (w : World) (hcs : SlI w ao cs) :
    Calls Tryd.prog 25 #[.int .i64 at0, .slice ao cs.length cap] w (PlanPost at0 cs w) := by
  by_cases h : isB at0 = true ∧ cs.length ≤ 40
  · exact plan_good at0 ao cap cs w h.1 h.2 hcs
  · refine (plan_bad at0 ao cap cs w ?_).mono fun e w' hh => ⟨fun _ => hh, fun hk => ?_⟩
    · cases hi : isB at0 with
      | false => exact .inl rfl
      | true => right; have : ¬ cs.length ≤ 40 := fun h2 => h ⟨hi, h2⟩; omega
    · exfalso; apply h
      rw [planOk, Bool.and_eq_true, Bool.and_eq_true] at hk
      exact ⟨hk.1.1, by simpa using hk.1.2⟩

/-- a plan that exists: as a slice that can be read -/
theorem plan_yes (at0 : Int) (ao : Option Addr) (cap : Nat) (cs : List Int) (w : World) (hcs : SlI w ao cs) (hk : planOk at0 cs = true) :
    Calls Tryd.prog 25 #[.int .i64 at0, .slice ao cs.length cap] w fun e w' => ∃ ao' cap', e = .returned (.tuple #[.slice ao' cs.length cap', .int .i64 (lenF cs at0), .int .i64 0]) ∧ SlI w' ao' (planL at0 cs) ∧ Below w.heap.size w w' := by
  refine (plan_any at0 ao cap cs w hcs).mono fun e w' h => ?_
  obtain ⟨v, he, hm⟩ := h.2 hk
  obtain ⟨ao', cap', hv, hs⟩ := hm.sl
  obtain ⟨h1, h2, h3⟩ := (planOk_iff _ _).1 hk
  rw [planL_len cs at0 h1 h3 (by omega)] at hv
  exact ⟨ao', cap', by rw [he, hv], hs, hm.below⟩
theorem plan_not (at0 : Int) (ao : Option Addr) (cap : Nat) (cs : List Int) (w : World) (hcs : SlI w ao cs) (hk : planOk at0 cs = false) :
    Calls Tryd.prog 25 #[.int .i64 at0, .slice ao cs.length cap] w fun e w' => e = .returned (.tuple #[.slice none 0 0, .int .i64 0, .int .i64 1]) ∧ Below w.heap.size w w' :=
  (plan_any at0 ao cap cs w hcs).mono fun _ _ h => h.1 hk

set_option maxHeartbeats 400000 in
theorem move_yes (at0 c : Int) (w : World) (hk : planOk at0 [c] = true) :
    Calls Tryd.prog 17 #[.int .i64 at0, .int .i64 c] w fun e w' => e = .returned (.tuple #[.int .i64 ((planL at0 [c]).headD 0), .int .i64 (lenF [c] at0), .int .i64 0]) ∧ Below w.heap.size w w' := by
  have hs : SlI (w.alloc (.cells #[.int .i64 c] 3)) (some ⟨w.heap.size, 0, none⟩) [c] := SlI_lit w 3 [c] (by simp [maxLen])
  obtain ⟨h1, h2, h3⟩ := (planOk_iff _ _).1 hk
  obtain ⟨p, hp, _⟩ := planL_cons c [] at0 h1 h3 (by simp)
  have hp' : planL at0 [c] = [p] := by rw [hp]; rfl
  have hc := plan_yes at0 (some ⟨w.heap.size, 0, none⟩) 1 [c] _ hs hk
  have HC := hid hc
  clear hc
  rw [hp']
  generalize lenF [c] at0 = d at *
  have HP := hid hp'
  clear hp hp' hk h1 h2 h3 hs
  go_enter Tryd.func17, Tryd.ntmps17
  go_wp2_with fail
  refine HC.out.mono ?_
  rintro e w1 ⟨ao', cap', rfl, hs1, hB1⟩
  obtain ⟨b, off, rfl, hb, hx⟩ := hs1.cell 0 p (by rw [HP.out]; rfl)
  rw [Nat.add_zero] at hx
  go_wp2
  go_ret3
  exact ⟨rfl, ((Below.refl _ w).alloc (Nat.le_refl _) _).trans (hB1.mono (by simp))⟩
theorem move_not (at0 c : Int) (w : World) (hk : planOk at0 [c] = false) :
    Calls Tryd.prog 17 #[.int .i64 at0, .int .i64 c] w fun e w' => e = .returned (.tuple #[.int .i64 0, .int .i64 0, .int .i64 1]) ∧ Below w.heap.size w w' := by
  have hs : SlI (w.alloc (.cells #[.int .i64 c] 3)) (some ⟨w.heap.size, 0, none⟩) [c] := SlI_lit w 3 [c] (by simp [maxLen])
  have hc := plan_not at0 (some ⟨w.heap.size, 0, none⟩) 1 [c] _ hs hk
  have HC := hid hc
  clear hc hk hs
  go_enter Tryd.func17, Tryd.ntmps17
  go_wp2_with fail
  refine HC.out.mono ?_
  rintro e w1 ⟨rfl, hB1⟩
  go_wp2
  go_ret3
  exact ⟨rfl, ((Below.refl _ w).alloc (Nat.le_refl _) _).trans (hB1.mono (by simp))⟩
end Go.Proofs.YthnkahilaampmaaDoor
