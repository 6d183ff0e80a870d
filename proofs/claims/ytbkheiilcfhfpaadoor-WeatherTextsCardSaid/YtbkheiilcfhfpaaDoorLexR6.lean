/- The lexer, plain: gaps put between the tokens of a text. -/
import Derived.Test.YtbkheiilcfhfpaaDoorLexR5
namespace Go.Proofs.YtbkheiilcfhfpaaDoor

theorem joinR_nil' (l : List UInt8) (p : Nat) : joinR [] (lexR p l) = lexR p l := joinR_nil _ (lexR_none l p)
theorem lexR_gaps_front {G : List UInt8} (hG : gapL false G = G.length) (p : Nat) (x : List UInt8) : lexR p (G ++ 10 :: x) = lexR (p + G.length + 1) x := by
  rw [lexR_parts, lexR_end (l := G) (by omega)]
  simp only [if_pos]
  exact joinR_nil' x _
theorem lexR_gaps_back {G : List UInt8} (hG : gapL false G = G.length) (p : Nat) {x : List UInt8} (hx : (lexR p x).2.1 = 0) : lexR p (x ++ 10 :: G) = ((lexR p x).1, 0, 0) := by
  rw [lexR_parts, if_pos hx, lexR_end (l := G) (by omega)]
  unfold joinR
  simp
theorem stop_gap2 {k : Int} {t z : List UInt8} (hz : atC z 0 = 1 ∨ atC z 0 = 2) : Stop k t z := by
  refine ⟨fun _ => by omega, fun _ _ _ => ?_⟩
  intro h
  rw [atC_of_head h] at hz
  exact absurd hz (by decide)
/-- a text cut behind one of its tokens -/
theorem lexR_cut (z : List UInt8) (hz : atC z 0 = 1 ∨ atC z 0 = 2) : ∀ (l : List UInt8) (p k : Nat) (t : Tok), (lexR p l).2.1 = 0 → (lexR p l).1[k]? = some t →
    ∃ m, t.at_ + wlen t = p + m ∧ m ≤ l.length ∧ 1 ≤ m ∧ lexR p (l.take m ++ z) = joinR ((lexR p l).1.take (k + 1)) (lexR (p + m) z) ∧ lexR (p + m) (l.drop m) = ((lexR p l).1.drop (k + 1), 0, 0) := by
  intro l
  induction l using lexR_ind with
  | h l ih =>
    intro p k t h0 hk
    rcases lexR_cases p l with ⟨_, h⟩ | ⟨e, _, _, h, he⟩ | ⟨kd, tt, n, w, hg, ht, hw, hl, h⟩
    · rw [h] at hk; simp at hk
    · rw [h] at h0; exact absurd h0 he
    · have hd := drop_ne (l := l) (by omega)
      obtain ⟨s1, s2, s3, -, s5⟩ := tok1_stop hd ht
      rw [h, joinR_ok.1] at h0
      have hL : (lexR p l).1 = [⟨kd, tt, n, p + gapL false l⟩] ++ (lexR (p + gapL false l + w) (l.drop (gapL false l + w))).1 := by rw [h, joinR_ok.2.2 h0]
      have hz' := lexR_zero _ _ h0
      generalize hgg : gapL false l = g at *
      have htk : ∀ m x, g + w ≤ m → ((l.take m ++ x).drop g) = wrt kd tt ++ (((l.drop (g + w)).take (m - (g + w))) ++ x) := by
        intro m x hm
        have e1 : l.take m = l.take g ++ (wrt kd tt ++ (l.drop (g + w)).take (m - (g + w))) := by
          rw [← s2]
          have a1 : l.take m = l.take (g + (w + (m - (g + w)))) := by congr 1; omega
          rw [a1, List.take_add, List.take_add, List.drop_drop]
        rw [e1, List.append_assoc, List.drop_append, List.drop_of_length_le (by rw [List.length_take]; omega), List.nil_append]
        have : g - (l.take g).length = 0 := by rw [List.length_take]; omega
        rw [this, List.drop_zero, List.append_assoc]
      have hgap : ∀ m x, g + w ≤ m → m ≤ l.length → gapL false (l.take m ++ x) = g := by
        intro m x hm hml
        have a1 := gapL_take l false m (by omega)
        rw [gapL_app _ _ _ (by rw [a1, List.length_take]; omega), a1, hgg]
      cases k with
      | zero =>
        rw [hL] at hk ⊢
        simp at hk
        subst hk
        refine ⟨g + w, ?_, hl, by omega, ?_, ?_⟩
        · show p + g + (wrt kd tt).length = _; omega
        · have e := htk (g + w) z (Nat.le_refl _)
          have eg := hgap (g + w) z (Nat.le_refl _) hl
          rw [Nat.sub_self, List.take_zero, List.nil_append] at e
          rw [lexR_tok (k := kd) (t := tt) (n := n) (w := w) (by rw [eg, List.length_append, List.length_take]; omega) (by rw [eg, e]; exact s5 z (stop_gap2 hz)), eg]
          have ed : (l.take (g + w) ++ z).drop (g + w) = z := by
            rw [← List.drop_drop, e, List.drop_append, List.drop_of_length_le (by omega), s3, Nat.sub_self, List.nil_append, List.drop_zero]
          rw [ed, Nat.add_assoc]
          rfl
        · rw [← Nat.add_assoc]
          show _ = ((lexR (p + g + w) (l.drop (g + w))).1, 0, 0)
          exact Prod.ext rfl (Prod.ext h0 hz')
      | succ k =>
        rw [hL] at hk
        simp at hk
        obtain ⟨m', i1, i2, i3, i4, i5⟩ := ih (l.drop (g + w)) (by simp; omega) (p + g + w) k t h0 hk
        rw [List.length_drop] at i2
        refine ⟨g + w + m', by omega, by omega, by omega, ?_, ?_⟩
        · have e := htk (g + w + m') z (by omega)
          have eg := hgap (g + w + m') z (by omega) (by omega)
          have e2 : g + w + m' - (g + w) = m' := by omega
          rw [e2] at e
          have hst : Stop kd tt ((l.drop (g + w)).take m' ++ z) := by
            have s1' := s1
            rw [List.drop_drop] at s1'
            apply stop_head s1'
            obtain ⟨m2, rfl⟩ : ∃ m2, m' = m2 + 1 := ⟨m' - 1, by omega⟩
            have hne : l.drop (g + w) ≠ [] := by intro e; have := congrArg List.length e; simp at this; omega
            obtain ⟨c, r, hcr⟩ := List.exists_cons_of_ne_nil hne
            rw [hcr]; rfl
          rw [lexR_tok (k := kd) (t := tt) (n := n) (w := w) (by rw [eg, List.length_append, List.length_take]; omega) (by rw [eg, e]; exact s5 _ hst), eg]
          have ed : (l.take (g + w + m') ++ z).drop (g + w) = (l.drop (g + w)).take m' ++ z := by
            rw [← List.drop_drop, e, List.drop_append, List.drop_of_length_le (by omega), s3, Nat.sub_self, List.nil_append, List.drop_zero]
          rw [ed, i4, joinR_join, hL]
          have e3 : p + (g + w + m') = p + g + w + m' := by omega
          rw [e3]
          rfl
        · have e3 : p + (g + w + m') = p + g + w + m' := by omega
          rw [List.drop_drop] at i5
          rw [e3, i5, hL]; rfl
theorem map_stR_sh (q : Nat) (L : List Tok) : (L.map (shT q)).map stR = L.map stR := by
  rw [List.map_map]; rfl
theorem gaps_head {G : List UInt8} (hG : gapL false G = G.length) (x : List UInt8) : atC (G ++ 10 :: x) 0 = 1 ∨ atC (G ++ 10 :: x) 0 = 2 := by
  cases G with
  | nil => left; rfl
  | cons b G =>
    have e : atC (b :: G ++ 10 :: x) 0 = cls b := rfl
    rw [e]
    simp only [gapL, List.length_cons] at hG
    by_cases h1 : cls b = 1
    · exact .inl h1
    · rw [if_neg h1] at hG
      by_cases h2 : b = 35
      · right; rw [h2]; decide
      · rw [if_neg h2] at hG; omega
/-- **gaps ahead, behind, and behind one of the tokens** -/
theorem lexR_with_gaps {G l : List UInt8} (hG : gapL false G = G.length) (h0 : (lexR 0 l).2.1 = 0) {m : Nat} (hm : ((lexR 0 l).1 = [] ∧ m = 0) ∨ ∃ (k : Nat) (t : Tok), (lexR 0 l).1[k]? = some t ∧ m = t.at_ + wlen t) :
    m ≤ l.length ∧ (lexR 0 (G ++ 10 :: (l.take m ++ (G ++ 10 :: (l.drop m ++ 10 :: G))))).2.1 = 0 ∧ (lexR 0 (G ++ 10 :: (l.take m ++ (G ++ 10 :: (l.drop m ++ 10 :: G))))).1.map stR = (lexR 0 l).1.map stR := by
  have hsh : ∀ q, (lexR q l).2.1 = 0 ∧ (lexR q l).1.map stR = (lexR 0 l).1.map stR := by
    intro q
    rw [lexR_shift0 q l]
    exact ⟨h0, map_stR_sh _ _⟩
  rw [lexR_gaps_front hG, Nat.zero_add]
  rcases hm with ⟨hn, rfl⟩ | ⟨k, t, hk, rfl⟩
  · rw [List.take_zero, List.nil_append, List.drop_zero, lexR_gaps_front hG]
    obtain ⟨a1, a2⟩ := hsh (G.length + 1 + G.length + 1)
    rw [lexR_gaps_back hG _ a1]
    exact ⟨Nat.zero_le _, rfl, a2⟩
  · obtain ⟨a1, a2⟩ := hsh (G.length + 1)
    have hk' : (lexR (G.length + 1) l).1[k]? = some (shT (G.length + 1) t) := by
      rw [lexR_shift0 (G.length + 1) l]; simp [hk]
    obtain ⟨m, c1, c2, c3, c4, c5⟩ := lexR_cut _ (gaps_head hG (l.drop (t.at_ + wlen t) ++ 10 :: G)) l (G.length + 1) k _ a1 hk'
    have hmm : m = t.at_ + wlen t := by
      have : (shT (G.length + 1) t).at_ = t.at_ + (G.length + 1) := rfl
      have h2 : wlen (shT (G.length + 1) t) = wlen t := rfl
      omega
    subst hmm
    rw [c4, lexR_gaps_front hG]
    have c6 : (lexR (G.length + 1 + (t.at_ + wlen t) + G.length + 1) (l.drop (t.at_ + wlen t))).2.1 = 0 ∧ (lexR (G.length + 1 + (t.at_ + wlen t) + G.length + 1) (l.drop (t.at_ + wlen t))).1.map stR = ((lexR (G.length + 1) l).1.drop (k + 1)).map stR := by
      have e : G.length + 1 + (t.at_ + wlen t) + G.length + 1 = (G.length + 1 + (t.at_ + wlen t)) + (G.length + 1) := by omega
      rw [e, lexR_shift, c5]
      exact ⟨rfl, map_stR_sh _ _⟩
    rw [lexR_gaps_back hG _ c6.1]
    refine ⟨c2, by rw [joinR_ok.1], ?_⟩
    rw [joinR_ok.2.2 rfl, List.map_append]
    show List.map stR ((lexR (G.length + 1) l).1.take (k + 1)) ++ List.map stR (lexR _ _).1 = _
    rw [c6.2, ← List.map_append, List.take_append_drop, a2]
end Go.Proofs.YtbkheiilcfhfpaaDoor
