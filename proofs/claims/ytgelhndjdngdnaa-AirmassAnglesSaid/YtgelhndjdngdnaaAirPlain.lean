/- airmass: the windows of the program and of the reference are one list; what that list is -/
import Derived.Test.YtgelhndjdngdnaaAirSpans
namespace Go.Proofs.Ytgelhndjdngdnaa
open Go.RowKit

def xsG (g : Nat → Int) (k : Nat) : List (Int × Int) := (List.range k).map fun (j : Nat) => ((j : Int), g j)
theorem xsG_succ (g : Nat → Int) (k : Nat) : xsG g (k + 1) = xsG g k ++ [((k : Int), g k)] := by simp [xsG, List.range_succ]
def wstep (least : Int) (st : Int × List (Int × Int)) (x : Int × Int) : Int × List (Int × Int) := if x.2 < least then endF x.1 st else if st.1 < 0 then (x.1, st.2) else st
theorem winSt_val (least : Int) (xs : List Slot) : winSt least xs = (xs.map Subtype.val).foldl (wstep least) (-1, []) := by unfold winSt; rw [List.foldl_map]; rfl

theorem slots_val (s t n : Int) : (slotsL s t n).map Subtype.val = xsG (fun j => heightF s t (96 * n + (j : Int))) 96 := by
  unfold slotsL xsG
  rw [List.map_map]
  apply List.map_congr_left
  intro j hj
  show (slotOf s t n j).1 = _
  rw [slotOf_val s t n j (List.mem_range.1 hj), Int.mul_comm]
theorem slotsP_val (s t n : Int) (k : Nat) : slotsP s t n k = xsG (fun j => heightF s t (96 * n + (j : Int))) k := rfl

theorem rStep_new (least : Int) (R : List (Int × Int)) (x : Int × Int) (h : ¬ x.2 < least) (hl : ∀ a b, R.getLast? = some (a, b) → b < x.1 - 1) : rStep least R x = R ++ [(x.1, x.1)] := by
  unfold rStep
  rw [if_neg h]
  cases e : R.getLast? with
  | none => rw [List.getLast?_eq_none_iff] at e; subst e; rfl
  | some z =>
    obtain ⟨a, b⟩ := z
    have := hl a b e
    dsimp only
    rw [if_neg (by omega)]

theorem win_inv (least : Int) (g : Nat → Int) : ∀ k : Nat,
    rwinF least (xsG g k) = ((xsG g k).foldl (wstep least) (-1, [])).2 ++ (if 0 ≤ ((xsG g k).foldl (wstep least) (-1, [])).1 then [(((xsG g k).foldl (wstep least) (-1, [])).1, (k : Int) - 1)] else []) ∧
    (((xsG g k).foldl (wstep least) (-1, [])).1 < 0 → ∀ a b, (rwinF least (xsG g k)).getLast? = some (a, b) → b < (k : Int) - 1) := by
  intro k
  induction k with
  | zero => simp [xsG, rwinF]
  | succ k ih =>
    rw [xsG_succ, rwinF_snoc, List.foldl_append]
    generalize rwinF least (xsG g k) = R at *
    generalize (xsG g k).foldl (wstep least) (-1, []) = st at *
    obtain ⟨f, out⟩ := st
    obtain ⟨i1, i2⟩ := ih
    simp only [List.foldl_cons, List.foldl_nil, wstep] at i1 i2 ⊢
    by_cases hh : g k < least
    · simp only [rStep, if_pos hh, endF]
      by_cases hf : 0 ≤ f
      · rw [if_pos hf] at i1
        subst i1
        refine ⟨by simp [hf], fun _ a b h => ?_⟩
        simp at h
        omega
      · rw [if_neg hf] at i1
        subst i1
        simp only [List.append_nil] at *
        refine ⟨by simp [hf], fun _ a b h => ?_⟩
        have := i2 (by omega) a b h
        omega
    · simp only [if_neg hh]
      by_cases hf : 0 ≤ f
      · rw [if_pos hf] at i1
        subst i1
        have h1 : ¬ f < 0 := by omega
        simp [rStep, hh, hf, h1]
      · rw [if_neg hf, List.append_nil] at i1
        subst i1
        have h1 : f < 0 := by omega
        rw [if_pos h1]
        rw [rStep_new least R _ hh (fun a b e => i2 h1 a b e)]
        refine ⟨by simp, fun h => absurd h (by simp)⟩

theorem win_eq (least : Int) (s t n : Int) : winF least (slotsL s t n) = rwinF least (slotsP s t n 96) := by
  unfold winF
  rw [winSt_val, slots_val, slotsP_val]
  have h := (win_inv least (fun j => heightF s t (96 * n + (j : Int))) 96).1
  rw [h]
  unfold endF
  dsimp only
  split <;> simp

/-- what the list of windows is -/
structure WinOk (P : Int → Prop) (k : Int) (l : List (Int × Int)) : Prop where
  ord : l.Pairwise (fun x y => x.2 + 1 < y.1)
  bd : ∀ x ∈ l, 0 ≤ x.1 ∧ x.1 ≤ x.2 ∧ x.2 < k
  mem : ∀ j, 0 ≤ j → j < k → ((∃ x ∈ l, x.1 ≤ j ∧ j ≤ x.2) ↔ P j)

theorem rwin_ok (least : Int) (g : Nat → Int) (k : Nat) : WinOk (fun j => least ≤ g j.toNat) k (rwinF least (xsG g k)) := by
  induction k with
  | zero => exact ⟨by simp [xsG, rwinF], by simp [xsG, rwinF], by intro j h0 h1; omega⟩
  | succ k ih =>
    rw [xsG_succ, rwinF_snoc]
    generalize rwinF least (xsG g k) = R at *
    obtain ⟨o, b, m⟩ := ih
    have hk : g ((k : Int)).toNat = g k := by simp
    unfold rStep
    dsimp only
    by_cases hh : g k < least
    · rw [if_pos hh]
      refine ⟨o, fun x hx => by have := b x hx; omega, fun j h0 h1 => ?_⟩
      by_cases hj : j < k
      · exact m j h0 hj
      · obtain rfl : j = k := by omega
        constructor
        · rintro ⟨x, hx, h2, h3⟩; have := b x hx; omega
        · intro h; rw [hk] at h; omega
    · rw [if_neg hh]
      have add : ∀ R', R' = R ++ [((k : Int), (k : Int))] → (∀ x ∈ R, x.2 + 1 < (k : Int)) → WinOk (fun j => least ≤ g j.toNat) (k + 1 : Nat) R' := by
        rintro _ rfl hlast
        refine ⟨?_, ?_, ?_⟩
        · rw [List.pairwise_append]
          exact ⟨o, by simp, fun x hx y hy => by simp at hy; subst hy; exact hlast x hx⟩
        · intro x hx
          rcases List.mem_append.1 hx with hx | hx
          · have := b x hx; omega
          · simp at hx; subst hx; dsimp only; omega
        · intro j h0 h1
          by_cases hj : j < k
          · rw [← m j h0 hj]
            constructor
            · rintro ⟨x, hx, h2, h3⟩
              rcases List.mem_append.1 hx with hx | hx
              · exact ⟨x, hx, h2, h3⟩
              · simp at hx; subst hx; dsimp only at *; omega
            · rintro ⟨x, hx, h2⟩; exact ⟨x, List.mem_append.2 (.inl hx), h2⟩
          · obtain rfl : j = k := by omega
            refine ⟨fun _ => by rw [hk]; omega, fun _ => ⟨(k, k), by simp, by dsimp only; omega⟩⟩
      rcases List.eq_nil_or_concat R with e | ⟨pre, ⟨x, y⟩, e⟩
      · subst e
        exact add _ (by simp) (by simp)
      · rw [List.concat_eq_append] at e
        subst e
        simp only [List.getLast?_append, List.getLast?_singleton, Option.some_or]
        have hpw := List.pairwise_append.1 o
        have hxy := b (x, y) (by simp)
        dsimp only at hxy
        by_cases hy : y = (k : Int) - 1
        · rw [if_pos hy]
          simp only [List.dropLast_concat]
          refine ⟨?_, ?_, ?_⟩
          · rw [List.pairwise_append]
            exact ⟨hpw.1, by simp, fun a ha c hc => by simp at hc; subst hc; exact hpw.2.2 a ha (x, y) (by simp)⟩
          · intro a ha
            rcases List.mem_append.1 ha with ha | ha
            · have := b a (List.mem_append.2 (.inl ha)); omega
            · simp at ha; subst ha; dsimp only; omega
          · intro j h0 h1
            by_cases hj : j < k
            · rw [← m j h0 hj]
              constructor
              · rintro ⟨a, ha, h2, h3⟩
                rcases List.mem_append.1 ha with ha | ha
                · exact ⟨a, List.mem_append.2 (.inl ha), h2, h3⟩
                · simp at ha; subst ha; exact ⟨(x, y), by simp, h2, by dsimp only; omega⟩
              · rintro ⟨a, ha, h2, h3⟩
                rcases List.mem_append.1 ha with ha | ha
                · exact ⟨a, List.mem_append.2 (.inl ha), h2, h3⟩
                · simp at ha; subst ha; exact ⟨(x, (k : Int)), by simp, h2, by dsimp only at *; omega⟩
            · obtain rfl : j = k := by omega
              refine ⟨fun _ => by rw [hk]; omega, fun _ => ⟨(x, k), by simp, by dsimp only; omega⟩⟩
        · rw [if_neg hy]
          refine add _ rfl ?_
          intro a ha
          rcases List.mem_append.1 ha with ha | ha
          · have := hpw.2.2 a ha (x, y) (by simp)
            dsimp only at this; omega
          · simp at ha; subst ha; dsimp only; omega

/-- each window for a stricter condition lies within one for the looser -/
theorem win_within {P Q : Int → Prop} {k : Int} {l m : List (Int × Int)} (hl : WinOk P k l) (hm : WinOk Q k m) (hPQ : ∀ j, 0 ≤ j → j < k → P j → Q j) (x : Int × Int) (hx : x ∈ l) : ∃ y ∈ m, y.1 ≤ x.1 ∧ x.2 ≤ y.2 := by
  obtain ⟨b0, b1, b2⟩ := hl.bd x hx
  obtain ⟨y, hy, y1, y2⟩ := (hm.mem x.1 b0 (by omega)).2 (hPQ _ b0 (by omega) ((hl.mem x.1 b0 (by omega)).1 ⟨x, hx, by omega, b1⟩))
  refine ⟨y, hy, y1, ?_⟩
  rcases Int.lt_or_le y.2 x.2 with h | h
  · exfalso
    obtain ⟨z, hz, z1, z2⟩ := (hm.mem (y.2 + 1) (by omega) (by omega)).2 (hPQ _ (by omega) (by omega) ((hl.mem (y.2 + 1) (by omega) (by omega)).1 ⟨x, hx, by omega, by omega⟩))
    have hb := hm.bd y hy
    have hc := hm.bd z hz
    obtain ⟨i, hi, ei⟩ := List.getElem_of_mem hy
    obtain ⟨j, hj, ej⟩ := List.getElem_of_mem hz
    have hp := List.pairwise_iff_getElem.1 hm.ord
    rcases Nat.lt_trichotomy i j with h1 | h1 | h1
    · have := hp i j hi hj h1; rw [ei, ej] at this; omega
    · subst h1; rw [ei] at ej; subst ej; omega
    · have := hp j i hj hi h1; rw [ei, ej] at this; omega
  · exact h
end Go.Proofs.Ytgelhndjdngdnaa
