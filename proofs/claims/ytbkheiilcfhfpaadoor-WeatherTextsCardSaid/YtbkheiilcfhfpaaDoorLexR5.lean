/- The lexer, plain: where the tokens stand. -/
import Derived.Test.YtbkheiilcfhfpaaDoorLexR4
namespace Go.Proofs.YtbkheiilcfhfpaaDoor

theorem lexR_none (l : List UInt8) (p : Nat) (h : (lexR p l).2.1 ≠ 0) : (lexR p l).1 = [] := by
  rcases lexR_cases p l with ⟨_, h1⟩ | ⟨e, _, _, h1, _⟩ | ⟨k, t, n, w, _, _, _, _, h1⟩
  · rw [h1]
  · rw [h1]
  · rw [h1] at h ⊢
    rw [joinR_ok.1] at h
    unfold joinR; rw [if_neg h]
def wlen (t : Tok) : Nat := (wrt t.k t.t).length
/-- the tokens stand in the text, from a place on -/
def PL (l : List UInt8) : Nat → List Tok → Prop
  | p, [] => p ≤ l.length ∧ gapL false (l.drop p) = (l.drop p).length
  | p, t :: ts => p ≤ t.at_ ∧ t.at_ + wlen t ≤ l.length ∧ GoodT t ∧ Stop t.k t.t (l.drop (t.at_ + wlen t)) ∧ (l.drop t.at_).take (wlen t) = wrt t.k t.t ∧ gapL false ((l.take t.at_).drop p) = t.at_ - p ∧ PL l (t.at_ + wlen t) ts
theorem lexR_PL (l : List UInt8) : ∀ (n p : Nat), (l.drop p).length ≤ n → p ≤ l.length → (lexR p (l.drop p)).2.1 = 0 → PL l p (lexR p (l.drop p)).1 := by
  intro n
  induction n with
  | zero =>
    intro p hn hp h0
    rcases lexR_cases p (l.drop p) with ⟨hg, h1⟩ | ⟨e, hg, _, h1, _⟩ | ⟨k, t, n, w, hg, _, _, _, h1⟩
    · rw [h1]; exact ⟨hp, hg⟩
    · omega
    · omega
  | succ n ih =>
    intro p hn hp h0
    rcases lexR_cases p (l.drop p) with ⟨hg, h1⟩ | ⟨e, _, _, h1, he⟩ | ⟨k, t, m, w, hg, ht, hw, hl, h1⟩
    · rw [h1]; exact ⟨hp, hg⟩
    · rw [h1] at h0; exact absurd h0 he
    · rw [h1, joinR_ok.1] at h0
      rw [h1, joinR_ok.2.2 h0]
      obtain ⟨s1, s2, s3, -, -⟩ := tok1_stop (drop_ne (by omega)) ht
      rw [List.length_drop] at hl hn
      rw [List.drop_drop] at h0 ⊢
      generalize hgg : gapL false (l.drop p) = g at *
      have e1 : p + (g + w) = p + g + w := by omega
      rw [e1] at h0 ⊢
      refine ⟨?_, ?_, ?_, ?_, ?_, ?_, ?_⟩
      · show p ≤ p + g; omega
      · show p + g + (wrt k t).length ≤ l.length; omega
      · have := goodT_of (p + g) (by rw [hgg]; exact hg) (by rw [hgg]; exact ht)
        exact this
      · show Stop k t (l.drop (p + g + (wrt k t).length))
        rw [s3]
        rw [List.drop_drop, List.drop_drop, e1] at s1
        exact s1
      · show (l.drop (p + g)).take (wrt k t).length = wrt k t
        rw [s3]
        rw [List.drop_drop] at s2
        exact s2
      · show gapL false ((l.take (p + g)).drop p) = p + g - p
        rw [List.drop_take]
        have e2 : p + g - p = g := by omega
        rw [e2]
        have := gapL_take (l.drop p) false g (by omega)
        rw [this, hgg]
      · show PL l (p + g + (wrt k t).length) _
        rw [s3]
        exact ih _ (by rw [List.length_drop]; omega) (by omega) h0
theorem lexR_places {l : List UInt8} (h : (lexR 0 l).2.1 = 0) : PL l 0 (lexR 0 l).1 := by
  have := lexR_PL l (l.drop 0).length 0 (Nat.le_refl _) (Nat.zero_le _) (by rw [List.drop_zero]; exact h)
  rwa [List.drop_zero] at this
/-- from the k-th token on -/
theorem PL_drop {l : List UInt8} : ∀ {ts : List Tok} {p k : Nat} {t : Tok}, PL l p ts → ts[k]? = some t → ∃ q, PL l q (t :: ts.drop (k + 1)) ∧ (k = 0 → q = p) ∧ (∀ u, k ≠ 0 → ts[k - 1]? = some u → q = u.at_ + wlen u)
  | [], _, _, _, _, h => by simp at h
  | u :: ts, p, 0, t, h, hk => by
    simp at hk; subst hk
    exact ⟨p, h, fun _ => rfl, fun _ h => absurd rfl h⟩
  | u :: ts, p, k + 1, t, h, hk => by
    obtain ⟨-, -, -, -, -, -, h7⟩ := h
    obtain ⟨q, h1, h2, h3⟩ := PL_drop (k := k) h7 (by simpa using hk)
    refine ⟨q, by simpa using h1, fun h => by omega, fun v _ hv => ?_⟩
    by_cases hk0 : k = 0
    · subst hk0
      simp at hv; subst hv
      exact h2 rfl
    · obtain ⟨k', rfl⟩ : ∃ k', k = k' + 1 := ⟨k - 1, by omega⟩
      exact h3 v (by omega) (by simpa using hv)
theorem PL_end {l : List UInt8} : ∀ {ts : List Tok} {p : Nat}, PL l p ts → ∀ q, (ts = [] → q = p) → (∀ u, ts[ts.length - 1]? = some u → q = u.at_ + wlen u) → q ≤ l.length ∧ gapL false (l.drop q) = (l.drop q).length
  | [], p, h, q, h1, _ => by rw [h1 rfl]; exact h
  | [u], p, h, q, _, h2 => by
    obtain ⟨-, -, -, -, -, -, h7⟩ := h
    rw [h2 u (by simp)]; exact h7
  | u :: v :: ts, p, h, q, _, h2 => by
    obtain ⟨-, -, -, -, -, -, h7⟩ := h
    exact PL_end h7 q (fun e => by simp at e) (fun x hx => h2 x (by simpa using hx))
theorem stop_nil (k : Int) (t : List UInt8) : Stop k t [] := ⟨fun _ => by simp [atC], fun _ _ _ => by simp⟩
theorem lexR_one {t : Tok} (h : GoodT t) (p : Nat) : lexR p (wrt t.k t.t) = ([⟨t.k, t.t, t.n, p⟩], 0, 0) := by
  have := lexR_front h p [] (stop_nil _ _)
  rw [List.append_nil] at this
  rw [this, lexR_end (by simp)]
  rfl
theorem stop_head {k : Int} {t x y : List UInt8} (h : Stop k t x) (hh : x.head? = y.head?) : Stop k t y := by
  obtain ⟨h1, h2⟩ := h
  refine ⟨fun hk => ?_, fun a b c => ?_⟩
  · rw [atC_head, ← hh, ← atC_head]; exact h1 hk
  · rw [← hh]; exact h2 a b c
/-- two tokens that follow each other directly are two tokens -/
theorem lexR_two {l : List UInt8} {q : Nat} {a b : Tok} {r : List Tok} (ha : PL l q (a :: b :: r)) (hd : a.at_ + wlen a = b.at_) : lexR 0 (wrt a.k a.t ++ wrt b.k b.t) = ([⟨a.k, a.t, a.n, 0⟩, ⟨b.k, b.t, b.n, wlen a⟩], 0, 0) := by
  obtain ⟨-, -, g1, s1, -, -, h7⟩ := ha
  obtain ⟨-, hb2, g2, -, w2, -, -⟩ := h7
  have hst : Stop a.k a.t (wrt b.k b.t) := by
    apply stop_head s1
    rw [hd, ← w2]
    have hp := g2.pos
    obtain ⟨m, hm⟩ : ∃ m, wlen b = m + 1 := ⟨wlen b - 1, by unfold wlen; omega⟩
    rw [hm]
    cases l.drop b.at_ <;> simp
  rw [lexR_front g1 0 _ hst, lexR_one g2]
  unfold joinR
  rw [if_pos rfl]
  simp [wlen]
end Go.Proofs.YtbkheiilcfhfpaaDoor
