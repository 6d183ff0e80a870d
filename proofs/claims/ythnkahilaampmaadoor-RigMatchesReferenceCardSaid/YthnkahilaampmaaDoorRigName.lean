/- rig: an identifier is a name -/
import Derived.Test.YthnkahilaampmaaDoorRefName
import Derived.Test.YthnkahilaampmaaDoorRigBase
namespace Go.Proofs.YthnkahilaampmaaDoor

theorem spanC_whole {cs : List Nat} : ∀ {l : List UInt8}, spanC cs l = l.length ↔ l.all (fun b => cs.contains (cls b)) = true := by
  intro l
  unfold spanC
  induction l with
  | nil => simp
  | cons b l ih =>
    rw [List.takeWhile_cons, List.all_cons]
    cases h : cs.contains (cls b) with
    | true => simp only [if_true, List.length_cons, Bool.true_and, ← ih]; omega
    | false => simp
theorem take_self {α : Type} {l : List α} {k : Nat} (hk : k ≤ l.length) (h : l.take k = l) : k = l.length := by
  have := congrArg List.length h
  rw [List.length_take] at this
  omega
theorem lexF_end (f k p : Nat) : lexF f k p [] = ([], 0, 0) := by
  cases f with
  | zero => rfl
  | succ f => rw [lexF]; simp [gapL]
theorem idB_name (l : List UInt8) (hl : l.length ≤ 20000) : idB l = nameB l := by
  rw [Bool.eq_iff_iff]
  constructor
  · intro h
    unfold idB at h
    rw [Bool.and_eq_true, decide_eq_true_eq] at h
    obtain ⟨he, hm⟩ := h
    unfold lexL at he hm
    rw [if_neg (by omega)] at he hm
    rw [lexF] at he hm
    by_cases hg : l.length ≤ gapL false l
    · rw [if_pos hg] at hm; simp at hm
    · rw [if_neg hg] at he hm
      have hne : l.drop (gapL false l) ≠ [] := by
        intro h; have := congrArg List.length h; simp at this; omega
      cases ht : tok1 (l.drop (gapL false l)) with
      | err e =>
        rw [ht] at he
        have := tok1_err ht
        have he' : e = 0 := he
        omega
      | tok kd t n wd =>
        rw [ht] at he hm
        try simp only at he hm
        rw [if_neg (by omega)] at he hm
        unfold joinR at he hm
        split at hm
        · rename_i x heq
          split at heq
          · simp only [List.cons_append, List.nil_append, List.cons.injEq] at heq
            obtain ⟨rfl, _⟩ := heq
            simp only [Bool.and_eq_true, decide_eq_true_eq] at hm
            obtain ⟨rfl, rfl⟩ := hm
            obtain ⟨b1, b2, b3, b4⟩ := tok1_bd hne ht
            rw [List.length_drop] at b2
            have hg0 : gapL false t = 0 := by omega
            rw [hg0, List.drop_zero] at ht
            unfold tok1 at ht
            by_cases c3 : atC t 0 = 3
            · rw [if_pos c3] at ht
              split at ht
              · cases ht
              · rename_i h24
                injection ht with _ e2 _ e4
                have hsp : spanC [3, 4, 5] t = t.length := take_self (spanC_le _ _) e2
                have hw : wordsB t = true := spanC_whole.1 hsp
                unfold nameB
                rw [hw, c3]
                have hpos : 0 < t.length := by omega
                have h24' : t.length ≤ 24 := by omega
                simp [hpos, h24']
            · rw [if_neg c3] at ht
              exfalso
              repeat' split at ht
              all_goals first | (injection ht with e1; omega) | cases ht
          · cases heq
        · cases hm
  · intro h
    unfold nameB at h
    simp only [Bool.and_eq_true, decide_eq_true_eq] at h
    obtain ⟨⟨hw, h1, h24⟩, h3⟩ := h
    have hsp : spanC [3, 4, 5] l = l.length := spanC_whole.2 hw
    have hg : gapL false l = 0 := gapL_stop (by omega) (by omega)
    have ht : tok1 l = .tok 1 l 0 l.length := by
      unfold tok1
      rw [if_pos h3, hsp, if_neg (by omega), List.take_length]
    have hlx : lexL l = ([⟨1, l, 0, 0⟩], 0, 0) := by
      unfold lexL
      rw [if_neg (by omega), lexF, hg, if_neg (by omega), List.drop_zero, ht]
      simp only
      rw [if_neg (by omega)]
      simp only [Nat.zero_add, List.drop_length, lexF_end]
      simp [joinR]
    unfold idB
    rw [hlx]
    simp
end Go.Proofs.YthnkahilaampmaaDoor
