import Derived.Test.YtiimngmkndfegaaMountThrough
import Derived.Test.YtiimngmkndfegaaMountFacts
namespace Go.Proofs.Ytiimngmkndfegaa
open Go.RowKit

theorem position_any (r : Int) (w : World) (h0 : 0 ≤ r) (h1 : r ≤ 255) : Calls Try.prog 16 #[.int .u8 r] w fun e w' => e = .returned (.int .i64 (r % 97 - 48)) ∧ w = w' := by
  go_enter Try.func16, Try.ntmps16
  go_wp2
  go_ret
  exact ⟨rfl, rfl⟩

theorem leastBy_mono (on on' : Int → Int) (a : Int) (ps : List Int) (h : ∀ p ∈ ps, on p ≤ on' p) : leastBy on a ps ≤ leastBy on' a ps := by
  suffices hh : ∀ (l : List Int) (m m' : Int), (∀ p ∈ l, on p ≤ on' p) → m ≤ m' → l.foldl (fun m p => min m (max (a - p) (p - a) + on p)) m ≤ l.foldl (fun m p => min m (max (a - p) (p - a) + on' p)) m' from hh ps _ _ h (by omega)
  intro l
  induction l with
  | nil => intro m m' _ h; simpa using h
  | cons q l ih => intro m m' hp hm; simp only [List.foldl_cons]; refine ih _ _ (fun p hq => hp p (by simp [hq])) ?_; have := hp q (by simp); omega

theorem lenF_more (A B : List Int) (a : Int) : lenF A a ≤ lenF (A ++ B) a := by
  induction A generalizing a with
  | nil => simp only [lenF, List.nil_append]; exact (lenF_bd B a).1
  | cons c A ih => simp only [lenF, List.cons_append]; exact leastBy_mono _ _ _ _ (fun p _ => ih p)

theorem lenF_parts (A B : List Int) (a : Int) (ha : -48 ≤ a ∧ a ≤ 48) (hA : ∀ x ∈ A, 0 ≤ x ∧ x < 32) (hl : A.length < 1000) : lenF (A ++ B) a ≤ lenF A a + lenF B ((planL a A).getLastD a) := by
  induction A generalizing a with
  | nil => simp [lenF, planL]
  | cons c A ih =>
    obtain ⟨p, h1, h2, h3, h4⟩ := planL_cons c A a ha hA (by simp at hl; omega)
    have h5 := ih p h4 (fun x hx => hA x (by simp [hx])) (by simp at hl; omega)
    have h6 := leastBy_mem (lenF (A ++ B)) a (reachL c) p h2
    rw [h1]
    have h7 : ((p :: planL p A).getLastD a) = (planL p A).getLastD p := by
      cases planL p A with
      | nil => rfl
      | cons q l => simp [List.getLastD]
    rw [h7]
    have e : lenF (c :: A ++ B) a = leastBy (lenF (A ++ B)) a (reachL c) := rfl
    rw [e]
    omega

theorem reach_self (a : Int) (ha : -48 ≤ a ∧ a ≤ 48) : a ∈ reachL ((a + 64) % 32) := by
  rw [reachL_mem_iff _ (by omega) (by omega)]
  have hq : 0 ≤ (a + 64) / 32 ∧ (a + 64) / 32 ≤ 3 := by omega
  by_cases h : 16 ≤ (a + 64) % 32
  · refine ⟨((a + 64) / 32).toNat, ?_, ?_⟩
    · unfold rlen; split <;> omega
    · rw [show rbase ((a + 64) % 32) = (a + 64) % 32 - 64 from if_pos h]; omega
  · refine ⟨((a + 64) / 32 - 1).toNat, ?_, ?_⟩
    · unfold rlen; split <;> omega
    · rw [show rbase ((a + 64) % 32) = (a + 64) % 32 - 32 from if_neg h]; omega

theorem lenF_own (a : Int) (ha : -48 ≤ a ∧ a ≤ 48) (n : Nat) : lenF (List.replicate n ((a + 64) % 32)) a = 0 := by
  induction n with
  | zero => rfl
  | succ n ih =>
    have h1 := leastBy_mem (lenF (List.replicate n ((a + 64) % 32))) a (reachL ((a + 64) % 32)) a (reach_self a ha)
    have h2 := (lenF_bd (List.replicate (n + 1) ((a + 64) % 32)) a).1
    rw [ih] at h1
    rw [List.replicate_succ] at h2 ⊢
    simp only [lenF] at h2 ⊢
    omega

theorem getLastD_get (l : List Int) (d x : Int) (h : l[l.length - 1]? = some x) : l.getLastD d = x := by
  rw [List.getLastD_eq_getLast?, List.getLast?_eq_getElem?, h]; rfl

/-- what the law needs of two lists of columns -/
theorem parts_facts (a : Int) (A B : List Int) (ha : -48 ≤ a ∧ a ≤ 48) (hA : ∀ x ∈ A, 0 ≤ x ∧ x < 32) (hB : ∀ x ∈ B, 0 ≤ x ∧ x < 32) (hl : A.length + B.length ≤ 40) (e : Int) (he : (planL a A).getLastD a = e) :
    (-48 ≤ e ∧ e ≤ 48) ∧ lenF A a ≤ lenF (A ++ B) a ∧ lenF (A ++ B) a ≤ lenF A a + lenF B e := by
  subst he
  refine ⟨?_, lenF_more A B a, lenF_parts A B a ha hA (by omega)⟩
  have : ∀ (A : List Int) (a : Int), (-48 ≤ a ∧ a ≤ 48) → (∀ x ∈ A, 0 ≤ x ∧ x < 32) → A.length < 1000 → (-48 ≤ (planL a A).getLastD a ∧ (planL a A).getLastD a ≤ 48) := by
    intro A
    induction A with
    | nil => intro a ha _ _; simpa [planL] using ha
    | cons c A ih =>
      intro a ha hA hl
      obtain ⟨p, h1, _, _, h4⟩ := planL_cons c A a ha hA (by simp at hl; omega)
      have h5 := ih p h4 (fun x hx => hA x (by simp [hx])) (by simp at hl; omega)
      rw [h1]
      have h7 : ((p :: planL p A).getLastD a) = (planL p A).getLastD p := by
        cases planL p A with
        | nil => rfl
        | cons q l => simp [List.getLastD]
      rw [h7]; exact h5
  exact this A a ha hA (by omega)
end Go.Proofs.Ytiimngmkndfegaa
