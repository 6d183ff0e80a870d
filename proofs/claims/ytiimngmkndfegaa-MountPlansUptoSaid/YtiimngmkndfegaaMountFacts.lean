import Derived.Test.YtiimngmkndfegaaMountHead
namespace Go.Proofs.Ytiimngmkndfegaa
open Go.RowKit

def rbase (c : Int) : Int := if 16 ≤ c then c - 64 else c - 32
def rlen (c : Int) : Nat := if c = 16 then 4 else 3

theorem reachL_form (c : Int) (h0 : 0 ≤ c) (h1 : c < 32) : reachL c = (List.range (rlen c)).map fun (k : Nat) => rbase c + 32 * (k : Int) := by
  have e : ∀ k : Nat, isB (c - 64 + 32 * (k : Int)) = decide (-48 ≤ c - 64 + 32 * (k : Int) ∧ c - 64 + 32 * (k : Int) ≤ 48) := fun _ => rfl
  unfold reachL
  simp only [reachTo]
  rcases Int.lt_trichotomy c 16 with h | h | h
  · rw [show rlen c = 3 from if_neg (by omega), show rbase c = c - 32 from if_neg (by omega)]
    rw [e, e, e, e, decide_eq_false (by omega), decide_eq_true (by omega), decide_eq_true (by omega), decide_eq_true (by omega)]
    simp [List.range_succ] <;> omega
  · subst h; decide
  · rw [show rlen c = 3 from if_neg (by omega), show rbase c = c - 64 from if_pos (by omega)]
    rw [e, e, e, e, decide_eq_true (by omega), decide_eq_true (by omega), decide_eq_true (by omega), decide_eq_false (by omega)]
    simp [List.range_succ]

theorem reachL_len (c : Int) (h0 : 0 ≤ c) (h1 : c < 32) : (reachL c).length = rlen c := by rw [reachL_form c h0 h1]; simp
theorem reachL_get (c : Int) (h0 : 0 ≤ c) (h1 : c < 32) (k : Nat) (hk : k < rlen c) : (reachL c)[k]? = some (rbase c + 32 * (k : Int)) := by
  rw [reachL_form c h0 h1]; simp [hk]
theorem reachL_mem_iff (c : Int) (h0 : 0 ≤ c) (h1 : c < 32) (p : Int) : p ∈ reachL c ↔ ∃ k : Nat, k < rlen c ∧ p = rbase c + 32 * (k : Int) := by
  rw [reachL_form c h0 h1]
  simp only [List.mem_map, List.mem_range]
  exact ⟨fun ⟨k, h, e⟩ => ⟨k, h, e.symm⟩, fun ⟨k, h, e⟩ => ⟨k, h, e.symm⟩⟩
theorem rlen_bd (c : Int) : 3 ≤ rlen c ∧ rlen c ≤ 4 := by unfold rlen; split <;> omega

/-- what Move finds -/
theorem move_spec (at_ c : Int) (ha : -48 ≤ at_ ∧ at_ ≤ 48) (h0 : 0 ≤ c) (h1 : c < 32) : ∃ p, planL at_ [c] = [p] ∧ p ∈ reachL c ∧ lenF [c] at_ = max (at_ - p) (p - at_) ∧
    ∀ q ∈ reachL c, lenF [c] at_ ≤ max (at_ - q) (q - at_) ∧ (max (at_ - q) (q - at_) = lenF [c] at_ → p ≤ q) := by
  obtain ⟨p, hf, hp, hd⟩ := step_found c [] at_ ha (by simpa using ⟨h0, h1⟩) (by simp)
  simp only [lenF, Int.add_zero] at hf hd
  refine ⟨p, by rw [planL]; simp only [lenF, Int.add_zero, hf]; rfl, hp, by simp only [lenF]; omega, fun q hq => ⟨by have := leastBy_mem (fun _ => 0) at_ (reachL c) q hq; simp only [lenF]; omega, fun he => ?_⟩⟩
  rw [List.find?_eq_some_iff_getElem] at hf
  obtain ⟨_, i, hi, hpe, hno⟩ := hf
  rw [reachL_len c h0 h1] at hi
  have hpi : p = rbase c + 32 * (i : Int) := by
    have h2 := reachL_get c h0 h1 i hi
    rw [List.getElem?_eq_getElem (by rw [reachL_len c h0 h1]; exact hi), hpe] at h2
    exact Option.some.inj h2
  obtain ⟨k, hk, hqk⟩ := (reachL_mem_iff c h0 h1 q).1 hq
  by_cases hki : k < i
  · exfalso
    have h3 := hno k hki
    have h2 := reachL_get c h0 h1 k hk
    rw [List.getElem?_eq_getElem (by rw [reachL_len c h0 h1]; exact hk)] at h2
    rw [Option.some.inj h2, ← hqk] at h3
    simp only [lenF] at he h3
    rw [he] at h3
    simp at h3
  · rw [hpi, hqk]; omega

/-- the distance of the columns of two positions around the circle -/
def aroundF (a b : Int) : Int := min (max (a - b) (b - a) % 32) (32 - max (a - b) (b - a) % 32)

theorem move_near (at_ c : Int) (ha : -48 ≤ at_ ∧ at_ ≤ 48) (h0 : 0 ≤ c) (h1 : c < 32) : lenF [c] at_ < 32 := by
  obtain ⟨p, _, _, _, hall⟩ := move_spec at_ c ha h0 h1
  have h3 := (hall (rbase c) ((reachL_mem_iff c h0 h1 _).2 ⟨0, by have := rlen_bd c; omega, by simp⟩)).1
  have h4 := (hall (rbase c + 32) ((reachL_mem_iff c h0 h1 _).2 ⟨1, by have := rlen_bd c; omega, by simp⟩)).1
  have h5 := (hall (rbase c + 64) ((reachL_mem_iff c h0 h1 _).2 ⟨2, by have := rlen_bd c; omega, by simp⟩)).1
  have h6 : c = 16 → lenF [c] at_ ≤ max (at_ - (rbase c + 96)) (rbase c + 96 - at_) := fun hc => (hall (rbase c + 96) ((reachL_mem_iff c h0 h1 _).2 ⟨3, by unfold rlen; rw [if_pos hc]; omega, by simp⟩)).1
  have hb : (16 ≤ c ∧ rbase c = c - 64) ∨ (c < 16 ∧ rbase c = c - 32) := by unfold rbase; split <;> omega
  rcases hb with ⟨hb, hr⟩ | ⟨hb, hr⟩
  · by_cases hc : c = 16
    · have := h6 hc; omega
    · omega
  · omega
theorem around_le (at_ c p : Int) (hp : ∃ k : Int, p = c + 32 * k ∧ -3 ≤ k ∧ k ≤ 3) : aroundF at_ c ≤ max (at_ - p) (p - at_) := by
  obtain ⟨k, rfl, h1, h2⟩ := hp
  unfold aroundF
  have : k = -3 ∨ k = -2 ∨ k = -1 ∨ k = 0 ∨ k = 1 ∨ k = 2 ∨ k = 3 := by omega
  rcases this with rfl | rfl | rfl | rfl | rfl | rfl | rfl <;> omega
theorem reachL_col (c p : Int) (h0 : 0 ≤ c) (h1 : c < 32) (hp : p ∈ reachL c) : (∃ k : Int, p = c + 32 * k ∧ -3 ≤ k ∧ k ≤ 3) ∧ (p + 64) % 32 = c := by
  obtain ⟨k, hk, e⟩ := (reachL_mem_iff c h0 h1 p).1 hp
  have hr := rlen_bd c
  unfold rbase at e
  split at e
  · exact ⟨⟨(k : Int) - 2, by omega, by omega, by omega⟩, by omega⟩
  · exact ⟨⟨(k : Int) - 1, by omega, by omega, by omega⟩, by omega⟩
end Go.Proofs.Ytiimngmkndfegaa
