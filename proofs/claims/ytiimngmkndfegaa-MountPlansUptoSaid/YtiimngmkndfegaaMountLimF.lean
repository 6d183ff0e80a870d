/- mount: the nearest each time, the sum around the circle, the mirror -/
import Derived.Test.YtiimngmkndfegaaMountDist
namespace Go.Proofs.Ytiimngmkndfegaa
open Go.RowKit

def moveP (a c : Int) : Int := (planL a [c]).headD 0
def greedyF : List Int → Int → Int
  | [], _ => 0
  | c :: cs, a => lenF [c] a + greedyF cs (moveP a c)
def leastF : List Int → Int → Int
  | [], _ => 0
  | c :: cs, a => aroundF a c + leastF cs c
def opp (c : Int) : Int := (32 - c) % 32

theorem lenF_cons (c : Int) (cs : List Int) (a : Int) : lenF (c :: cs) a = leastBy (lenF cs) a (reachL c) := rfl
theorem moveP_spec (a c : Int) (ha : -48 ≤ a ∧ a ≤ 48) (h0 : 0 ≤ c) (h1 : c < 32) : moveP a c ∈ reachL c ∧ lenF [c] a = max (a - moveP a c) (moveP a c - a) := by
  obtain ⟨p, hp, hm, hd, _⟩ := move_spec a c ha h0 h1
  unfold moveP
  rw [hp]
  exact ⟨hm, hd⟩
theorem greedy_ge : ∀ (cs : List Int) (a : Int), (-48 ≤ a ∧ a ≤ 48) → (∀ c ∈ cs, 0 ≤ c ∧ c < 32) → lenF cs a ≤ greedyF cs a
  | [], _, _, _ => by simp [lenF, greedyF]
  | c :: cs, a, ha, hc => by
    obtain ⟨h0, h1⟩ := hc c (by simp)
    obtain ⟨hm, hd⟩ := moveP_spec a c ha h0 h1
    have hb := reachL_mem c _ hm
    have ih := greedy_ge cs (moveP a c) hb (fun x hx => hc x (by simp [hx]))
    have := leastBy_mem (lenF cs) a (reachL c) _ hm
    rw [lenF_cons, greedyF]
    omega
theorem around_mod (c' c p : Int) (hp : ∃ k : Int, p = c' + 32 * k ∧ -3 ≤ k ∧ k ≤ 3) : aroundF c' c = aroundF p c := by
  obtain ⟨k, rfl, h1, h2⟩ := hp
  unfold aroundF
  have : k = -3 ∨ k = -2 ∨ k = -1 ∨ k = 0 ∨ k = 1 ∨ k = 2 ∨ k = 3 := by omega
  rcases this with rfl | rfl | rfl | rfl | rfl | rfl | rfl <;> omega
theorem leastBy_glb (on : Int → Int) (a m : Int) (ps : List Int) (hm : m ≤ 1073741824) (h : ∀ p ∈ ps, m ≤ max (a - p) (p - a) + on p) : m ≤ leastBy on a ps := by
  rcases Int.lt_or_le (leastBy on a ps) 1073741824 with hl | hl
  · obtain ⟨p, hp, e⟩ := leastBy_at on a ps hl
    rw [← e]; exact h p hp
  · omega
theorem leastF_bd : ∀ (cs : List Int) (a : Int), 0 ≤ leastF cs a ∧ leastF cs a ≤ 16 * (cs.length : Int)
  | [], _ => by simp [leastF]
  | c :: cs, a => by
    have ih := leastF_bd cs c
    have : 0 ≤ aroundF a c ∧ aroundF a c ≤ 16 := by unfold aroundF; omega
    simp only [leastF, List.length_cons]
    omega
theorem least_le : ∀ (cs : List Int) (a a' : Int), (∃ k : Int, a = a' + 32 * k ∧ -3 ≤ k ∧ k ≤ 3) → (∀ c ∈ cs, 0 ≤ c ∧ c < 32) → cs.length ≤ 1000 → leastF cs a' ≤ lenF cs a
  | [], _, _, _, _, _ => by simp [lenF, leastF]
  | c :: cs, a, a', ha, hc, hl => by
    obtain ⟨h0, h1⟩ := hc c (by simp)
    rw [lenF_cons]
    have hb := leastF_bd (c :: cs) a'
    simp only [List.length_cons] at hb hl
    refine leastBy_glb _ _ _ _ (by omega) fun p hp => ?_
    obtain ⟨hk, _⟩ := reachL_col c p h0 h1 hp
    have ih := least_le cs p c hk (fun x hx => hc x (by simp [hx])) (by omega)
    have e1 := around_mod a' c a ha
    have e2 := around_le a c p hk
    rw [leastF, e1]
    omega
theorem reachL_char (c p : Int) (h0 : 0 ≤ c) (h1 : c < 32) : p ∈ reachL c ↔ (-48 ≤ p ∧ p ≤ 48) ∧ (p + 64) % 32 = c := by
  constructor
  · intro h
    exact ⟨reachL_mem c p h, (reachL_col c p h0 h1 h).2⟩
  · rintro ⟨⟨h2, h3⟩, h4⟩
    refine (reachL_mem_iff c h0 h1 p).2 ⟨((p - rbase c) / 32).toNat, ?_, ?_⟩
    · unfold rbase rlen; split <;> split <;> omega
    · unfold rbase; split <;> omega
theorem opp_bd (c : Int) : 0 ≤ opp c ∧ opp c < 32 := by unfold opp; omega
theorem reachL_neg (c p : Int) (h0 : 0 ≤ c) (h1 : c < 32) : p ∈ reachL c ↔ -p ∈ reachL (opp c) := by
  rw [reachL_char c p h0 h1, reachL_char (opp c) (-p) (opp_bd c).1 (opp_bd c).2]
  unfold opp
  omega
theorem lenF_opp : ∀ (cs : List Int) (a : Int), (∀ c ∈ cs, 0 ≤ c ∧ c < 32) → lenF (cs.map opp) (-a) = lenF cs a
  | [], _, _ => rfl
  | c :: cs, a, hc => by
    obtain ⟨h0, h1⟩ := hc c (by simp)
    have ih := fun p => lenF_opp cs p (fun x hx => hc x (by simp [hx]))
    rw [List.map_cons, lenF_cons, lenF_cons]
    apply Int.le_antisymm
    · refine leastBy_glb _ _ _ _ (leastBy_le _ _ _) fun p hp => ?_
      have h := leastBy_mem (lenF (cs.map opp)) (-a) (reachL (opp c)) (-p) ((reachL_neg c p h0 h1).1 hp)
      rw [ih p] at h
      omega
    · refine leastBy_glb _ _ _ _ (leastBy_le _ _ _) fun p hp => ?_
      have hn : -p ∈ reachL c := (reachL_neg c (-p) h0 h1).2 (by rw [Int.neg_neg]; exact hp)
      have h := leastBy_mem (lenF cs) a (reachL c) (-p) hn
      have e := ih (-p)
      rw [Int.neg_neg] at e
      rw [e]
      omega
theorem greedyF_bd : ∀ (cs : List Int) (a : Int), (-48 ≤ a ∧ a ≤ 48) → (∀ c ∈ cs, 0 ≤ c ∧ c < 32) → 0 ≤ greedyF cs a ∧ greedyF cs a ≤ 32 * (cs.length : Int)
  | [], _, _, _ => by simp [greedyF]
  | c :: cs, a, ha, hc => by
    obtain ⟨h0, h1⟩ := hc c (by simp)
    obtain ⟨hm, hd⟩ := moveP_spec a c ha h0 h1
    have ih := greedyF_bd cs (moveP a c) (reachL_mem c _ hm) (fun x hx => hc x (by simp [hx]))
    have h2 := move_near a c ha h0 h1
    have h3 := (lenF_bd [c] a).1
    simp only [greedyF, List.length_cons]
    omega
end Go.Proofs.Ytiimngmkndfegaa
