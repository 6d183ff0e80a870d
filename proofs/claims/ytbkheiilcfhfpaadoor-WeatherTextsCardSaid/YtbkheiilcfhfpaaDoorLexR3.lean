/- The lexer, plain: the laws of texts. -/
import Derived.Test.YtbkheiilcfhfpaaDoorLexR2
namespace Go.Proofs.YtbkheiilcfhfpaaDoor

theorem joinR_ok {ts : List Tok} {r : List Tok × Int × Int} : (joinR ts r).2.1 = r.2.1 ∧ (joinR ts r).2.2 = r.2.2 ∧ (r.2.1 = 0 → (joinR ts r).1 = ts ++ r.1) := by
  unfold joinR
  by_cases h : r.2.1 = 0
  · rw [if_pos h]; exact ⟨h.symm, rfl, fun _ => rfl⟩
  · rw [if_neg h]; exact ⟨rfl, rfl, fun e => absurd e h⟩
/-- one step: end, error, or a token -/
theorem lexR_cases (p : Nat) (l : List UInt8) :
    (gapL false l = l.length ∧ lexR p l = ([], 0, 0)) ∨
    (∃ e, gapL false l < l.length ∧ tok1 (l.drop (gapL false l)) = .err e ∧ lexR p l = ([], e, ((p + gapL false l : Nat) : Int)) ∧ e ≠ 0) ∨
    (∃ k t n w, gapL false l < l.length ∧ tok1 (l.drop (gapL false l)) = .tok k t n w ∧ 1 ≤ w ∧ gapL false l + w ≤ l.length ∧
      lexR p l = joinR [⟨k, t, n, p + gapL false l⟩] (lexR (p + gapL false l + w) (l.drop (gapL false l + w)))) := by
  have hle := gapL_le false l
  by_cases h : gapL false l < l.length
  · right
    cases ht : tok1 (l.drop (gapL false l)) with
    | err e => exact .inl ⟨e, h, rfl, lexR_err h ht, by have := tok1_err ht; omega⟩
    | tok k t n w =>
      have hb := tok1_bd (drop_ne (by omega)) ht
      simp at hb
      exact .inr ⟨k, t, n, w, h, rfl, by omega, by omega, lexR_tok h ht⟩
  · exact .inl ⟨by omega, lexR_end (by omega)⟩

def shT (q : Nat) (t : Tok) : Tok := ⟨t.k, t.t, t.n, t.at_ + q⟩
theorem lexR_zero : ∀ (l : List UInt8) (p : Nat), (lexR p l).2.1 = 0 → (lexR p l).2.2 = 0 := by
  intro l
  induction l using lexR_ind with
  | h l ih =>
    intro p h0
    rcases lexR_cases p l with ⟨_, h⟩ | ⟨e, _, _, h, he⟩ | ⟨k, t, n, w, hg, _, hw, hl, h⟩
    · rw [h]
    · rw [h] at h0; exact absurd h0 he
    · rw [h] at h0 ⊢
      rw [joinR_ok.1] at h0
      rw [joinR_ok.2.1]
      exact ih _ (by simp; omega) _ h0
theorem lexR_shift (q : Nat) : ∀ (l : List UInt8) (p : Nat), lexR (p + q) l = ((lexR p l).1.map (shT q), (lexR p l).2.1, if (lexR p l).2.1 = 0 then 0 else (lexR p l).2.2 + q) := by
  intro l
  induction l using lexR_ind with
  | h l ih =>
    intro p
    rcases lexR_cases p l with ⟨hg, h⟩ | ⟨e, hg, ht, h, he⟩ | ⟨k, t, n, w, hg, ht, hw, hl, h⟩
    · rw [h, lexR_end (by omega)]; rfl
    · rw [h, lexR_err hg ht]
      simp only [List.map_nil, if_neg he]
      congr 2; push_cast; omega
    · have i := ih (l.drop (gapL false l + w)) (by simp; omega) (p + gapL false l + w)
      have e1 : p + q + gapL false l + w = p + gapL false l + w + q := by omega
      rw [lexR_tok hg ht, h, e1, i]
      generalize lexR (p + gapL false l + w) (l.drop (gapL false l + w)) = r
      obtain ⟨ts, e, m⟩ := r
      by_cases he : e = 0
      · subst he
        simp only [joinR, if_pos, List.map_append, List.map_cons, List.map_nil, shT]
        have : p + q + gapL false l = p + gapL false l + q := by omega
        rw [this]
      · simp only [joinR, if_neg he, List.map_nil]
theorem lexR_shift0 (q : Nat) (l : List UInt8) : lexR q l = ((lexR 0 l).1.map (shT q), (lexR 0 l).2.1, if (lexR 0 l).2.1 = 0 then 0 else (lexR 0 l).2.2 + q) := by
  have := lexR_shift q l 0
  rwa [Nat.zero_add] at this

/-- **both texts with a line feed between them** -/
theorem lexR_parts (x : List UInt8) : ∀ (l : List UInt8) (p : Nat), lexR p (l ++ 10 :: x) = if (lexR p l).2.1 = 0 then joinR (lexR p l).1 (lexR (p + l.length + 1) x) else lexR p l := by
  intro l
  induction l using lexR_ind with
  | h l ih =>
    intro p
    rcases lexR_cases p l with ⟨hg, h⟩ | ⟨e, hg, ht, h, he⟩ | ⟨k, t, n, w, hg, ht, hw, hl, h⟩
    · rw [h]
      simp only [if_pos]
      have hgg := gapL_nl x l false hg
      have hj : joinR [] (lexR (p + l.length + 1) x) = lexR (p + l.length + 1) x := joinR_nil _ (fun hne => by
        rcases lexR_cases (p + l.length + 1) x with ⟨_, h⟩ | ⟨e, _, _, h, _⟩ | ⟨k, t, n, w, _, _, _, _, h⟩
        · rw [h]
        · rw [h]
        · rw [h] at hne ⊢
          rw [joinR_ok.1] at hne
          unfold joinR; rw [if_neg hne])
      rw [hj]
      -- the gaps in front are skipped
      rcases lexR_cases (p + l.length + 1) x with ⟨h1, h2⟩ | ⟨e, h1, h2, h3, _⟩ | ⟨k, t, n, w, h1, h2, _, _, h3⟩
      · rw [h2, lexR_end (by rw [hgg]; simp; omega)]
      · have hd : (l ++ 10 :: x).drop (gapL false (l ++ 10 :: x)) = x.drop (gapL false x) := by
          rw [hgg, List.drop_append, List.drop_of_length_le (by omega), List.nil_append]
          have : l.length + 1 + gapL false x - l.length = gapL false x + 1 := by omega
          rw [this, List.drop_succ_cons]
        rw [h3, lexR_err (e := e) (by rw [hgg]; simp; omega) (by rw [hd]; exact h2), hgg]
        congr 2; push_cast; omega
      · have hd : ∀ j, (l ++ 10 :: x).drop (gapL false (l ++ 10 :: x) + j) = x.drop (gapL false x + j) := by
          intro j
          rw [hgg, List.drop_append, List.drop_of_length_le (by omega), List.nil_append]
          have : l.length + 1 + gapL false x + j - l.length = gapL false x + j + 1 := by omega
          rw [this, List.drop_succ_cons]
        have hd0 := hd 0
        rw [Nat.add_zero, Nat.add_zero] at hd0
        rw [h3, lexR_tok (k := k) (t := t) (n := n) (w := w) (by rw [hgg]; simp; omega) (by rw [hd0]; exact h2), hd, hgg]
        have : p + (l.length + 1 + gapL false x) = p + l.length + 1 + gapL false x := by omega
        rw [this]
    · rw [h]
      simp only [if_neg he]
      have hgg := gapL_app (10 :: x) l false hg
      rw [lexR_err (e := e) (by rw [hgg]; simp; omega) (by rw [hgg, List.drop_append_of_le_length (by omega), tok1_nl (drop_ne (by omega))]; exact ht), hgg]
    · have hgg := gapL_app (10 :: x) l false hg
      have i := ih (l.drop (gapL false l + w)) (by simp; omega) (p + gapL false l + w)
      rw [h, lexR_tok (k := k) (t := t) (n := n) (w := w) (by rw [hgg]; simp; omega) (by rw [hgg, List.drop_append_of_le_length (by omega), tok1_nl (drop_ne (by omega))]; exact ht), hgg, List.drop_append_of_le_length (by omega), i, joinR_ok.1]
      have e1 : p + gapL false l + w + (l.drop (gapL false l + w)).length + 1 = p + l.length + 1 := by simp; omega
      rw [e1]
      by_cases he : (lexR (p + gapL false l + w) (l.drop (gapL false l + w))).2.1 = 0
      · rw [if_pos he, if_pos he, joinR_join, joinR_ok.2.2 he]
      · rw [if_neg he, if_neg he]
/-- **a text with an error: what stands ahead of it, and what stands from there on** -/
theorem lexR_begin : ∀ (l : List UInt8) (p : Nat), (lexR p l).2.1 ≠ 0 → ∃ m : Nat, (lexR p l).2.2 = ((p + m : Nat) : Int) ∧ m < l.length ∧ (lexR p (l.take m)).2.1 = 0 ∧ lexR 0 (l.drop m) = ([], (lexR p l).2.1, 0) := by
  intro l
  induction l using lexR_ind with
  | h l ih =>
    intro p hne
    rcases lexR_cases p l with ⟨hg, h⟩ | ⟨e, hg, ht, h, he⟩ | ⟨k, t, n, w, hg, ht, hw, hl, h⟩
    · rw [h] at hne; exact absurd rfl hne
    · refine ⟨gapL false l, by rw [h], hg, ?_, ?_⟩
      · rw [lexR_end]
        rw [gapL_take l false _ (Nat.le_refl _), List.length_take]; omega
      · have hz := gapL_drop_zero l
        rw [h, lexR_err (e := e) (by rw [hz]; simp; omega) (by rw [hz]; exact ht), hz]; rfl
    · rw [h] at hne
      rw [joinR_ok.1] at hne
      obtain ⟨m, h1, h2, h3, h4⟩ := ih (l.drop (gapL false l + w)) (by simp; omega) (p + gapL false l + w) hne
      have h2' := h2
      rw [List.length_drop] at h2'
      obtain ⟨s1, s2, s3, -, s5⟩ := tok1_stop (drop_ne (by omega)) ht
      refine ⟨gapL false l + w + m, ?_, by omega, ?_, ?_⟩
      · rw [h, joinR_ok.2.1, h1]; push_cast; omega
      · have hgt := gapL_take l false (gapL false l + w + m) (by omega)
        have hdt : ∀ j, j ≤ gapL false l + w → (l.take (gapL false l + w + m)).drop j = (l.drop j).take (gapL false l + w + m - j) := by
          intro j _; rw [List.drop_take]
        have htk : tok1 ((l.take (gapL false l + w + m)).drop (gapL false l)) = .tok k t n w := by
          rw [hdt _ (by omega)]
          have e1 : gapL false l + w + m - gapL false l = w + m := by omega
          have e2 : (l.drop (gapL false l)).take (w + m) = (l.drop (gapL false l)).take w ++ ((l.drop (gapL false l)).drop w).take m := by
            rw [List.take_add]
          rw [e1, e2, s2]
          apply s5
          obtain ⟨a1, a2⟩ := s1
          by_cases hm : m = 0
          · subst hm
            rw [List.take_zero]
            exact ⟨fun _ => by simp [atC], fun _ _ _ => by simp⟩
          · obtain ⟨m', rfl⟩ : ∃ m', m = m' + 1 := ⟨m - 1, by omega⟩
            have hd : ((l.drop (gapL false l)).drop w).take (m' + 1) = [] ∨ ((l.drop (gapL false l)).drop w).head? = (((l.drop (gapL false l)).drop w).take (m' + 1)).head? := by
              cases ((l.drop (gapL false l)).drop w) <;> simp
            rcases hd with hd | hd
            · rw [hd]; exact ⟨fun _ => by simp [atC], fun _ _ _ => by simp⟩
            · refine ⟨fun hk => ?_, fun h1 h2 h3 => ?_⟩
              · rw [atC_head, ← hd, ← atC_head]; exact a1 hk
              · rw [← hd]; exact a2 h1 h2 h3
        rw [lexR_tok (by rw [hgt, List.length_take]; omega) (by rw [hgt]; exact htk), joinR_ok.1, hgt, hdt _ (by omega)]
        have e3 : gapL false l + w + m - (gapL false l + w) = m := by omega
        rw [e3]; exact h3
      · rw [h, joinR_ok.1]
        rw [List.drop_drop] at h4
        exact h4
end Go.Proofs.YtbkheiilcfhfpaaDoor
