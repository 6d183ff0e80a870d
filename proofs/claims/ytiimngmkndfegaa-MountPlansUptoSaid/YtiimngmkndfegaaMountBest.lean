/- mount: no other way is shorter, and none that is as long comes before the plan -/
import Derived.Test.YtiimngmkndfegaaMountLim
namespace Go.Proofs.Ytiimngmkndfegaa
open Go.RowKit

def pathLen : Int → List Int → Int
  | _, [] => 0
  | a, p :: ps => max (a - p) (p - a) + pathLen p ps
def ordF : List Int → List Int → Int
  | q :: qs, p :: ps => if q < p then -1 else if p < q then 1 else ordF qs ps
  | _, _ => 0
def InR : List Int → List Int → Prop
  | [], [] => True
  | q :: qs, c :: cs => q ∈ reachL c ∧ InR qs cs
  | _, _ => False

theorem find_least {f : Int → Bool} {l : List Int} {p q : Int} (hs : l.Pairwise (· < ·)) (h : l.find? f = some p) (hq : q ∈ l) (hf : f q = true) : p ≤ q := by
  obtain ⟨_, us, bs, rfl, hno⟩ := List.find?_eq_some_iff_append.1 h
  rcases List.mem_append.1 hq with hq | hq
  · have := hno q hq; rw [hf] at this; simp at this
  · rcases List.mem_cons.1 hq with rfl | hq
    · exact Int.le_refl _
    · have := (List.pairwise_append.1 hs).2.1
      rw [List.pairwise_cons] at this
      exact Int.le_of_lt (this.1 q hq)
theorem reachL_sorted (c : Int) (h0 : 0 ≤ c) (h1 : c < 32) : (reachL c).Pairwise (· < ·) := by
  rw [reachL_form c h0 h1, List.pairwise_map]
  exact List.pairwise_lt_range.imp (fun h => by omega)

theorem plan_path : ∀ (cs : List Int) (a : Int), (-48 ≤ a ∧ a ≤ 48) → (∀ c ∈ cs, 0 ≤ c ∧ c < 32) → cs.length < 1000 → pathLen a (planL a cs) = lenF cs a ∧ InR (planL a cs) cs
  | [], _, _, _, _ => by simp [planL, pathLen, lenF, InR]
  | c :: cs, a, ha, hc, hl => by
    simp only [List.length_cons] at hl
    obtain ⟨p, hf, hp, hd⟩ := step_found c cs a ha hc (by omega)
    have e : planL a (c :: cs) = p :: planL p cs := by rw [planL, hf]
    obtain ⟨i1, i2⟩ := plan_path cs p (reachL_mem c p hp) (fun x hx => hc x (by simp [hx])) (by omega)
    rw [e]
    exact ⟨by rw [pathLen, i1]; exact hd, hp, i2⟩

theorem plan_best : ∀ (cs : List Int) (a : Int) (qs : List Int), (-48 ≤ a ∧ a ≤ 48) → (∀ c ∈ cs, 0 ≤ c ∧ c < 32) → cs.length < 1000 → InR qs cs → lenF cs a ≤ pathLen a qs ∧ (pathLen a qs = lenF cs a → 0 ≤ ordF qs (planL a cs))
  | [], _, [], _, _, _, _ => by simp [pathLen, lenF, ordF]
  | [], _, _ :: _, _, _, _, h => h.elim
  | _ :: _, _, [], _, _, _, h => h.elim
  | c :: cs, a, q :: qs, ha, hc, hl, ⟨hq, hr⟩ => by
    simp only [List.length_cons] at hl
    obtain ⟨p, hf, hp, hd⟩ := step_found c cs a ha hc (by omega)
    have e : planL a (c :: cs) = p :: planL p cs := by rw [planL, hf]
    obtain ⟨c0, c1⟩ := hc c (by simp)
    have hcs := fun x hx => hc x (List.mem_cons_of_mem c hx)
    obtain ⟨i1, i2⟩ := plan_best cs q qs (reachL_mem c q hq) hcs (by omega) hr
    have hle := leastBy_mem (lenF cs) a (reachL c) q hq
    rw [← lenF_cons] at hle
    rw [pathLen, e, ordF]
    refine ⟨by omega, fun heq => ?_⟩
    have heq2 : max (a - q) (q - a) + lenF cs q = lenF (c :: cs) a := by omega
    have hpq := find_least (reachL_sorted c c0 c1) hf hq (by simpa using heq2)
    rw [if_neg (by omega)]
    by_cases hlt : p < q
    · rw [if_pos hlt]; omega
    · rw [if_neg hlt]
      obtain rfl : p = q := by omega
      exact i2 (by omega)

def pickF (c x : Int) : Int := (reachL c).getD (x % ((reachL c).length : Int)).toNat 0
def qsF : List Int → List Int → List Int → List Int
  | _ :: cs, p :: ps, [] => p :: qsF cs ps []
  | c :: cs, _ :: ps, x :: ch => pickF c x :: qsF cs ps ch
  | _, _, _ => []
theorem pick_idx (c x : Int) (h0 : 0 ≤ c) (h1 : c < 32) : 0 ≤ x % ((reachL c).length : Int) ∧ x % ((reachL c).length : Int) < ((reachL c).length : Int) := by
  rw [reachL_len c h0 h1]
  have := rlen_bd c
  exact ⟨Int.emod_nonneg _ (by omega), Int.emod_lt_of_pos _ (by omega)⟩
theorem pick_get (c x : Int) (h0 : 0 ≤ c) (h1 : c < 32) : (reachL c)[(x % ((reachL c).length : Int)).toNat]? = some (pickF c x) := by
  have := pick_idx c x h0 h1
  unfold pickF
  rw [List.getD_eq_getElem?_getD, List.getElem?_eq_getElem (by omega)]
  rfl
theorem pick_mem (c x : Int) (h0 : 0 ≤ c) (h1 : c < 32) : pickF c x ∈ reachL c := List.mem_of_getElem? (pick_get c x h0 h1)
theorem qsF_in : ∀ (cs ps ch : List Int), (∀ c ∈ cs, 0 ≤ c ∧ c < 32) → InR ps cs → InR (qsF cs ps ch) cs
  | [], [], _, _, _ => trivial
  | [], _ :: _, _, _, h => h.elim
  | _ :: _, [], _, _, h => h.elim
  | c :: cs, p :: ps, [], hc, ⟨h1, h2⟩ => ⟨h1, qsF_in cs ps [] (fun x hx => hc x (by simp [hx])) h2⟩
  | c :: cs, p :: ps, x :: ch, hc, ⟨_, h2⟩ => ⟨pick_mem c x (hc c (by simp)).1 (hc c (by simp)).2, qsF_in cs ps ch (fun x hx => hc x (by simp [hx])) h2⟩
theorem InR.len : ∀ {qs cs : List Int}, InR qs cs → qs.length = cs.length
  | [], [], _ => rfl
  | [], _ :: _, h => h.elim
  | _ :: _, [], h => h.elim
  | _ :: _, _ :: _, ⟨_, h⟩ => by simp [InR.len h]
theorem InR.get : ∀ {qs cs : List Int}, InR qs cs → ∀ (i : Nat) (q c : Int), qs[i]? = some q → cs[i]? = some c → q ∈ reachL c
  | [], [], _, i, q, c, h, _ => by simp at h
  | [], _ :: _, h, _, _, _, _, _ => h.elim
  | _ :: _, [], h, _, _, _, _, _ => h.elim
  | a :: qs, b :: cs, ⟨h1, h2⟩, 0, q, c, e1, e2 => by simp at e1 e2; subst e1 e2; exact h1
  | a :: qs, b :: cs, ⟨h1, h2⟩, i + 1, q, c, e1, e2 => InR.get h2 i q c (by simpa using e1) (by simpa using e2)
end Go.Proofs.Ytiimngmkndfegaa
