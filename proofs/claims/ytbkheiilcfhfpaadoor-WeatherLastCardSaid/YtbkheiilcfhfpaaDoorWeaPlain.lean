/- weather: plain laws of the conditions -/
import Derived.Test.YtbkheiilcfhfpaaDoorWeaEq
namespace Go.Proofs.YtbkheiilcfhfpaaDoor
open Go.RowKit

theorem cond_same {L : List Sp} {m n : Int} (h : ∀ s ∈ L, inR m s.a s.b = inR n s.a s.b) : condF L m = condF L n := by
  unfold condF
  generalize cdS = c
  induction L generalizing c with
  | nil => rfl
  | cons s L ih =>
    simp only [List.foldl_cons]
    have h1 : stepC m c s = stepC n c s := by unfold stepC; rw [h s (List.mem_cons_self ..)]
    rw [h1]
    exact ih (fun t ht => h t (List.mem_cons_of_mem _ ht)) _
theorem step_off {m : Int} {c : Cd} {s : Sp} (h : inR m s.a s.b = false) : stepC m c s = c := by unfold stepC; rw [h]; rfl
theorem cond_swap {A B : List Sp} {s t : Sp} {m : Int} (h : ¬ (s.a ≤ t.b ∧ t.a ≤ s.b)) : condF (A ++ t :: s :: B) m = condF (A ++ s :: t :: B) m := by
  unfold condF
  simp only [List.foldl_append, List.foldl_cons]
  generalize List.foldl (stepC m) cdS A = c
  have hn : inR m s.a s.b = false ∨ inR m t.a t.b = false := by
    unfold inR
    by_cases h1 : s.a ≤ m ∧ m ≤ s.b
    · right; apply decide_eq_false; intro h2; exact h ⟨by omega, by omega⟩
    · left; exact decide_eq_false h1
  rcases hn with h1 | h1
  · rw [step_off h1, step_off h1]
  · rw [step_off h1, step_off h1]
theorem all_swap (A B : List Sp) (s t : Sp) : allB (A ++ t :: s :: B) = allB (A ++ s :: t :: B) := by
  unfold allB
  have : (A ++ t :: s :: B).length = (A ++ s :: t :: B).length := by simp
  rw [this]
  congr 1
  simp only [List.all_append, List.all_cons]
  rw [← Bool.and_assoc (formB t), Bool.and_comm (formB t), Bool.and_assoc]
theorem spsCells_put (L : List Sp) (j : Nat) (s : Sp) (h : j < L.length) :
    (((((spsCells L).set (j * 5) (.int .i64 s.k)).set (j * 5 + 1) (.int .i64 s.q)).set (j * 5 + 2) (.int .i64 s.n)).set (j * 5 + 3) (.int .i64 s.a)).set (j * 5 + 4) (.int .i64 s.b) = spsCells (L.set j s) := by
  induction L generalizing j with
  | nil => simp at h
  | cons t L ih =>
    cases j with
    | zero => simp [spsCells, Sp.cells]
    | succ j =>
      have h2 := ih j (by simpa using h)
      have e : ∀ (l : List Value) (i : Nat) (v : Value), (t.cells ++ l).set (5 + i) v = t.cells ++ l.set i v := by
        intro l i v
        rw [List.set_append_right _ _ (by simp [Sp.cells])]
        simp [Sp.cells]
      have e0 : spsCells (t :: L) = t.cells ++ spsCells L := rfl
      have e1 : spsCells ((t :: L).set (j + 1) s) = t.cells ++ spsCells (L.set j s) := rfl
      rw [e0, e1, ← h2]
      rw [show (j + 1) * 5 = 5 + j * 5 from by omega]
      simp only [Nat.add_assoc, e]
theorem swap_list {L : List Sp} {j : Nat} {s t : Sp} (hs : L[j]? = some s) (ht : L[j + 1]? = some t) : ∃ A B, L = A ++ s :: t :: B ∧ (L.set j t).set (j + 1) s = A ++ t :: s :: B := by
  obtain ⟨h1, e1⟩ := List.getElem?_eq_some_iff.1 hs
  obtain ⟨h2, e2⟩ := List.getElem?_eq_some_iff.1 ht
  have hL : L = L.take j ++ s :: t :: L.drop (j + 2) := by
    conv => lhs; rw [← List.take_append_drop j L]
    rw [List.drop_eq_getElem_cons h1, List.drop_eq_getElem_cons h2, e1, e2]
  refine ⟨L.take j, L.drop (j + 2), hL, ?_⟩
  have hl : (L.take j).length = j := by rw [List.length_take]; omega
  generalize L.take j = A at *
  generalize L.drop (j + 2) = B at *
  subst hL
  subst hl
  simp
end Go.Proofs.YtbkheiilcfhfpaaDoor
