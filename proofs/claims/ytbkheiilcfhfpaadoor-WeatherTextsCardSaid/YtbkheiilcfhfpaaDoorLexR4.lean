/- The lexer, plain: what holds of each token of a text; texts written anew. -/
import Derived.Test.YtbkheiilcfhfpaaDoorLexR3
namespace Go.Proofs.YtbkheiilcfhfpaaDoor

/-- a token that the lexer gives -/
structure GoodT (t : Tok) : Prop where
  kind : 1 ≤ t.k ∧ t.k ≤ 4
  len : t.t.length ≤ 400
  pos : 1 ≤ (wrt t.k t.t).length
  head : atC (wrt t.k t.t) 0 ≠ 1 ∧ atC (wrt t.k t.t) 0 ≠ 2
  tok : ∀ x, Stop t.k t.t x → tok1 (wrt t.k t.t ++ x) = .tok t.k t.t t.n (wrt t.k t.t).length
theorem goodT_of {l : List UInt8} {k n : Int} {t : List UInt8} {w : Nat} (p : Nat) (hg : gapL false l < l.length) (ht : tok1 (l.drop (gapL false l)) = .tok k t n w) : GoodT ⟨k, t, n, p⟩ := by
  obtain ⟨-, s2, s3, s4, s5⟩ := tok1_stop (drop_ne (by omega)) ht
  obtain ⟨b1, b2, b3, -⟩ := tok1_bd (drop_ne (by omega)) ht
  refine ⟨s4, b3, by show 1 ≤ (wrt k t).length; omega, ?_, fun x hx => by rw [s3]; exact s5 x hx⟩
  have hh : atC (wrt k t) 0 = atC (l.drop (gapL false l)) 0 := by
    rw [← s2]; unfold atC; rw [List.getElem?_take, if_pos (by omega)]
  show atC (wrt k t) 0 ≠ 1 ∧ atC (wrt k t) 0 ≠ 2
  rw [hh, atC_drop, Nat.add_zero]
  unfold atC
  split
  · rename_i b hb; exact gapL_end hb
  · omega
theorem joinR_mem {ts : List Tok} {r : List Tok × Int × Int} {t : Tok} (h : t ∈ (joinR ts r).1) : t ∈ ts ∨ t ∈ r.1 := by
  unfold joinR at h
  split at h
  · simpa using h
  · simp at h
theorem joinR_len (ts : List Tok) (r : List Tok × Int × Int) : (joinR ts r).1.length ≤ ts.length + r.1.length := by
  unfold joinR; split <;> simp
theorem lexR_mem : ∀ (l : List UInt8) (p : Nat), (∀ t ∈ (lexR p l).1, t.at_ < p + l.length ∧ GoodT t) ∧ (lexR p l).1.length ≤ l.length := by
  intro l
  induction l using lexR_ind with
  | h l ih =>
    intro p
    rcases lexR_cases p l with ⟨_, h⟩ | ⟨e, _, _, h, he⟩ | ⟨k, t, n, w, hg, ht, hw, hl, h⟩
    · rw [h]; simp
    · rw [h]; simp
    · obtain ⟨i1, i2⟩ := ih (l.drop (gapL false l + w)) (by simp; omega) (p + gapL false l + w)
      rw [h]
      refine ⟨fun u hu => ?_, ?_⟩
      · rcases joinR_mem hu with hu | hu
        · rw [List.mem_singleton] at hu
          subst hu
          exact ⟨by show p + gapL false l < _; omega, goodT_of _ hg ht⟩
        · have := i1 u hu
          rw [List.length_drop] at this
          exact ⟨by omega, this.2⟩
      · have := joinR_len [⟨k, t, n, p + gapL false l⟩] (lexR (p + gapL false l + w) (l.drop (gapL false l + w)))
        rw [List.length_drop] at i2
        simp at this
        omega

/-- a byte of a gap in front -/
theorem lexR_gap1 {b : UInt8} (hb : cls b = 1) (p : Nat) (x : List UInt8) : lexR p (b :: x) = lexR (p + 1) x := by
  have hg : gapL false (b :: x) = 1 + gapL false x := by simp only [gapL, if_pos hb]
  have hd : ∀ j, (b :: x).drop (1 + gapL false x + j) = x.drop (gapL false x + j) := by
    intro j
    have : 1 + gapL false x + j = (gapL false x + j) + 1 := by omega
    rw [this, List.drop_succ_cons]
  rcases lexR_cases (p + 1) x with ⟨h1, h2⟩ | ⟨e, h1, h2, h3, _⟩ | ⟨k, t, n, w, h1, h2, _, _, h3⟩
  · rw [h2, lexR_end (by rw [hg]; simp; omega)]
  · have hd0 := hd 0
    rw [Nat.add_zero, Nat.add_zero] at hd0
    rw [h3, lexR_err (e := e) (by rw [hg]; simp; omega) (by rw [hg, hd0]; exact h2), hg]
    congr 2; push_cast; omega
  · have hd0 := hd 0
    rw [Nat.add_zero, Nat.add_zero] at hd0
    rw [h3, lexR_tok (k := k) (t := t) (n := n) (w := w) (by rw [hg]; simp; omega) (by rw [hg, hd0]; exact h2), hg, hd]
    have : p + (1 + gapL false x) = p + 1 + gapL false x := by omega
    rw [this]
/-- a token in front -/
theorem lexR_front {t : Tok} (ht : GoodT t) (p : Nat) (x : List UInt8) (hx : Stop t.k t.t x) : lexR p (wrt t.k t.t ++ x) = joinR [⟨t.k, t.t, t.n, p⟩] (lexR (p + (wrt t.k t.t).length) x) := by
  have hp := ht.pos
  have hh : atC (wrt t.k t.t ++ x) 0 = atC (wrt t.k t.t) 0 := atC_app (by omega)
  have hg : gapL false (wrt t.k t.t ++ x) = 0 := gapL_stop (by rw [hh]; exact ht.head.1) (by rw [hh]; exact ht.head.2)
  have := lexR_tok (p := p) (l := wrt t.k t.t ++ x) (k := t.k) (t := t.t) (n := t.n) (w := (wrt t.k t.t).length) (by rw [hg, List.length_append]; omega) (by rw [hg, List.drop_zero]; exact ht.tok x hx)
  rw [hg, Nat.add_zero, Nat.zero_add] at this
  rw [this, List.drop_append, List.drop_of_length_le (Nat.le_refl _), List.nil_append, Nat.sub_self, List.drop_zero]
theorem stop_gap {k : Int} {t : List UInt8} {b : UInt8} (hb : cls b = 1) (x : List UInt8) : Stop k t (b :: x) := by
  have e : atC (b :: x) 0 = 1 := by rw [atC_some (b := b) rfl, hb]
  refine ⟨fun _ => by rw [e]; omega, fun _ _ _ => ?_⟩
  intro h
  simp at h
  subst h
  exact absurd hb (by decide)
def stR (t : Tok) : Int × List UInt8 × Int := (t.k, t.t, t.n)
/-- tokens, with one blank after each -/
def allL (ts : List Tok) : List UInt8 := ts.flatMap fun t => wrt t.k t.t ++ [32]
theorem lexR_all : ∀ (ts : List Tok) (p : Nat), (∀ t ∈ ts, GoodT t) → (lexR p (allL ts)).2.1 = 0 ∧ (lexR p (allL ts)).1.map stR = ts.map stR
  | [], p, _ => by
    have : lexR p (allL []) = ([], 0, 0) := lexR_end (by simp [allL])
    rw [this]; exact ⟨rfl, rfl⟩
  | t :: ts, p, h => by
    have ht := h t (by simp)
    have e : allL (t :: ts) = wrt t.k t.t ++ 32 :: allL ts := by simp [allL]
    obtain ⟨i1, i2⟩ := lexR_all ts (p + (wrt t.k t.t).length + 1) (fun u hu => h u (by simp [hu]))
    rw [e, lexR_front ht p _ (stop_gap (by decide) _), lexR_gap1 (by decide)]
    refine ⟨by rw [joinR_ok.1]; exact i1, ?_⟩
    rw [joinR_ok.2.2 i1, List.map_append, i2]
    rfl
end Go.Proofs.YtbkheiilcfhfpaaDoor
