/- The lexer, plain: texts joined and cut. -/
import Derived.Test.YtbkheiilcfhfpaaDoorLexR
namespace Go.Proofs.YtbkheiilcfhfpaaDoor

theorem spanC_nl {cs : List Nat} (h : cs.contains 1 = false) (s r : List UInt8) : spanC cs (s ++ 10 :: r) = spanC cs s := by
  unfold spanC
  induction s with
  | nil => rw [List.nil_append, List.takeWhile_cons, cls_lf, h]; rfl
  | cons b s ih =>
    rw [List.cons_append, List.takeWhile_cons, List.takeWhile_cons]
    by_cases hb : cs.contains (cls b) = true
    · rw [if_pos hb, if_pos hb, List.length_cons, List.length_cons, ih]
    · rw [if_neg hb, if_neg hb]
theorem atC_app {s x : List UInt8} {i : Nat} (h : i < s.length) : atC (s ++ x) i = atC s i := by
  unfold atC; rw [List.getElem?_append_left h]
theorem atC_nl (s r : List UInt8) (i : Nat) (hi : i ≤ s.length) : atC (s ++ 10 :: r) i = if i < s.length then atC s i else 1 := by
  by_cases h : i < s.length
  · rw [if_pos h, atC_app h]
  · rw [if_neg h]; unfold atC
    rw [List.getElem?_append_right (by omega)]
    have : i - s.length = 0 := by omega
    rw [this]; rfl
theorem take_span_nl {cs : List Nat} (s x : List UInt8) : (s ++ x).take (spanC cs s) = s.take (spanC cs s) := by
  rw [List.take_append_of_le_length (spanC_le cs s)]
/-- a line feed behind it changes no token and no error -/
theorem tok1_nl {s : List UInt8} (hs : s ≠ []) (r : List UInt8) : tok1 (s ++ 10 :: r) = tok1 s := by
  obtain ⟨b, u, rfl⟩ := List.exists_cons_of_ne_nil hs
  have e0 : atC (b :: u) 0 = cls b := atC_some rfl
  have e1 : atC (b :: u ++ 10 :: r) 0 = cls b := atC_some rfl
  have q1 := spanC_nl (cs := [3, 4, 5]) (by decide) (b :: u) r
  have q2 := spanC_nl (cs := [4]) (by decide) (b :: u) r
  unfold tok1
  rw [e0, e1, q1, q2, take_span_nl, take_span_nl]
  by_cases h3 : cls b = 3
  · rw [if_pos h3, if_pos h3]
  rw [if_neg h3, if_neg h3]
  by_cases h4 : cls b = 4
  · rw [if_pos h4, if_pos h4]
    have hle := spanC_le [4] (b :: u)
    have hat := atC_nl (b :: u) r (spanC [4] (b :: u)) hle
    have : (13 < spanC [4] (b :: u) ∨ atC (b :: u ++ 10 :: r) (spanC [4] (b :: u)) = 3 ∨ atC (b :: u ++ 10 :: r) (spanC [4] (b :: u)) = 5) ↔ (13 < spanC [4] (b :: u) ∨ atC (b :: u) (spanC [4] (b :: u)) = 3 ∨ atC (b :: u) (spanC [4] (b :: u)) = 5) := by
      rw [hat]
      by_cases hl : spanC [4] (b :: u) < (b :: u).length
      · rw [if_pos hl]
      · rw [if_neg hl, atC_none (l := b :: u) (by omega)]; omega
    simp only [this]
  rw [if_neg h4, if_neg h4]
  by_cases h6 : cls b = 6
  · rw [if_pos h6, if_pos h6]
    show (if Lib.indexAny (u ++ 10 :: r) [34, 10] < 0 ∨ (u ++ 10 :: r)[(Lib.indexAny (u ++ 10 :: r) [34, 10]).toNat]? = some 10 then Tk.err 6
      else if 400 < Lib.indexAny (u ++ 10 :: r) [34, 10] then Tk.err 2 else Tk.tok 3 ((u ++ 10 :: r).take (Lib.indexAny (u ++ 10 :: r) [34, 10]).toNat) 0 ((Lib.indexAny (u ++ 10 :: r) [34, 10]).toNat + 2)) =
      (if Lib.indexAny u [34, 10] < 0 ∨ u[(Lib.indexAny u [34, 10]).toNat]? = some 10 then Tk.err 6
      else if 400 < Lib.indexAny u [34, 10] then Tk.err 2 else Tk.tok 3 (u.take (Lib.indexAny u [34, 10]).toNat) 0 ((Lib.indexAny u [34, 10]).toNat + 2))
    by_cases hn : Lib.indexAny u [34, 10] < 0
    · have h1 := indexAny_none hn
      have hi : Lib.indexAny (u ++ 10 :: r) [34, 10] = u.length := by
        apply indexAny_is (c := 10)
        · rw [List.take_append_of_le_length (Nat.le_refl _), List.take_of_length_le (Nat.le_refl _)]; exact h1
        · rw [List.getElem?_append_right (Nat.le_refl _)]; simp
        · decide
      have hx : (u ++ 10 :: r)[((u.length : Nat) : Int).toNat]? = some 10 := by
        have : ((u.length : Nat) : Int).toNat = u.length := by omega
        rw [this, List.getElem?_append_right (Nat.le_refl _)]; simp
      rw [hi, if_pos (Or.inr hx), if_pos (Or.inl hn)]
    · obtain ⟨m, hm⟩ : ∃ m : Nat, Lib.indexAny u [34, 10] = m := ⟨(Lib.indexAny u [34, 10]).toNat, by omega⟩
      obtain ⟨i1, c, i2, i3⟩ := indexAny_some hm
      have hml := (List.getElem?_eq_some_iff.1 i2).1
      have hi : Lib.indexAny (u ++ 10 :: r) [34, 10] = m := by
        apply indexAny_is (c := c)
        · rw [List.take_append_of_le_length (by omega)]; exact i1
        · rw [List.getElem?_append_left hml]; exact i2
        · exact i3
      rw [hi, hm]
      have : ((m : Nat) : Int).toNat = m := by omega
      rw [this, List.getElem?_append_left hml, List.take_append_of_le_length (by omega)]
  rw [if_neg h6, if_neg h6]
  show (if cls b = 7 ∨ cls b = 8 then (if (u ++ 10 :: r).head? = some 61 then Tk.tok 4 ((b :: (u ++ 10 :: r)).take 2) 0 2 else if cls b = 7 then .err 3 else .tok 4 [b] 0 1) else if cls b = 9 then .tok 4 [b] 0 1 else .err 3) =
    (if cls b = 7 ∨ cls b = 8 then (if u.head? = some 61 then Tk.tok 4 ((b :: u).take 2) 0 2 else if cls b = 7 then .err 3 else .tok 4 [b] 0 1) else if cls b = 9 then .tok 4 [b] 0 1 else .err 3)
  cases u with
  | nil => simp
  | cons c u => rfl

theorem gapL_app (x : List UInt8) : ∀ (l : List UInt8) (c : Bool), gapL c l < l.length → gapL c (l ++ x) = gapL c l
  | [], c, h => by simp at h
  | b :: l, true, h => by
    simp only [gapL, List.cons_append, List.length_cons] at h ⊢
    rw [gapL_app x l _ (by omega)]
  | b :: l, false, h => by
    simp only [gapL, List.cons_append, List.length_cons] at h ⊢
    by_cases h1 : cls b = 1
    · rw [if_pos h1] at h ⊢
      rw [if_pos h1, gapL_app x l _ (by omega)]
    · rw [if_neg h1] at h ⊢
      rw [if_neg h1]
      by_cases h2 : b = 35
      · rw [if_pos h2] at h ⊢
        rw [if_pos h2, gapL_app x l _ (by omega)]
      · rw [if_neg h2, if_neg h2]
theorem gapL_nl (x : List UInt8) : ∀ (l : List UInt8) (c : Bool), gapL c l = l.length → gapL c (l ++ 10 :: x) = l.length + 1 + gapL false x
  | [], true, h => by simp [gapL]
  | [], false, h => by simp [gapL, cls_lf]
  | b :: l, true, h => by
    simp only [gapL, List.cons_append, List.length_cons] at h ⊢
    rw [gapL_nl x l _ (by omega)]; omega
  | b :: l, false, h => by
    simp only [gapL, List.cons_append, List.length_cons] at h ⊢
    by_cases h1 : cls b = 1
    · rw [if_pos h1] at h ⊢
      rw [gapL_nl x l _ (by omega)]; omega
    · rw [if_neg h1] at h ⊢
      by_cases h2 : b = 35
      · rw [if_pos h2] at h ⊢
        rw [gapL_nl x l _ (by omega)]; omega
      · rw [if_neg h2] at h; omega
theorem gapL_take : ∀ (l : List UInt8) (c : Bool) (m : Nat), gapL c l ≤ m → gapL c (l.take m) = gapL c l
  | [], c, m, h => by simp
  | b :: l, c, 0, h => by
    have : gapL c (b :: l) = 0 := by omega
    rw [this]; cases c <;> rfl
  | b :: l, true, m + 1, h => by
    simp only [gapL, List.take_succ_cons] at h ⊢
    rw [gapL_take l _ m (by omega)]
  | b :: l, false, m + 1, h => by
    simp only [gapL, List.take_succ_cons] at h ⊢
    by_cases h1 : cls b = 1
    · rw [if_pos h1] at h ⊢
      rw [if_pos h1, gapL_take l _ m (by omega)]
    · rw [if_neg h1] at h ⊢
      rw [if_neg h1]
      by_cases h2 : b = 35
      · rw [if_pos h2] at h ⊢
        rw [if_pos h2, gapL_take l _ m (by omega)]
      · rw [if_neg h2, if_neg h2]
/-- gaps, then gaps -/
theorem gapL_drop_zero (l : List UInt8) : gapL false (l.drop (gapL false l)) = 0 := by
  apply gapL_stop
  · rw [atC_drop, Nat.add_zero]
    unfold atC; split
    · rename_i b hb; exact (gapL_end hb).1
    · omega
  · rw [atC_drop, Nat.add_zero]
    unfold atC; split
    · rename_i b hb; exact (gapL_end hb).2
    · omega

/-- the list of tokens, without limits -/
def lexG : Nat → Nat → List UInt8 → List Tok × Int × Int
  | 0, _, _ => ([], 0, 0)
  | f + 1, p, l =>
    if l.length ≤ gapL false l then ([], 0, 0)
    else match tok1 (l.drop (gapL false l)) with
      | .err e => ([], e, ((p + gapL false l : Nat) : Int))
      | .tok kd t n w => joinR [⟨kd, t, n, p + gapL false l⟩] (lexG f (p + gapL false l + w) (l.drop (gapL false l + w)))
theorem drop_ne {l : List UInt8} (h : ¬ l.length ≤ gapL false l) : l.drop (gapL false l) ≠ [] := by
  intro e
  have := congrArg List.length e
  simp at this; omega
theorem lexG_fuel : ∀ (f g p : Nat) (l : List UInt8), l.length < f → l.length < g → lexG f p l = lexG g p l
  | 0, _, _, _, h, _ => by omega
  | _, 0, _, _, _, h => by omega
  | f + 1, g + 1, p, l, h1, h2 => by
    simp only [lexG]
    by_cases h : l.length ≤ gapL false l
    · rw [if_pos h, if_pos h]
    · rw [if_neg h, if_neg h]
      cases ht : tok1 (l.drop (gapL false l)) with
      | err e => rfl
      | tok k t n w =>
        have hb := (tok1_bd (drop_ne h) ht).1
        have := lexG_fuel f g (p + gapL false l + w) (l.drop (gapL false l + w)) (by simp; omega) (by simp; omega)
        simp only [this]
theorem lexF_lexG : ∀ (f k p : Nat) (l : List UInt8), k + l.length ≤ 5000 → lexF f k p l = lexG f p l
  | 0, _, _, _, _ => rfl
  | f + 1, k, p, l, hk => by
    simp only [lexF, lexG]
    by_cases h : l.length ≤ gapL false l
    · rw [if_pos h, if_pos h]
    · rw [if_neg h, if_neg h]
      cases ht : tok1 (l.drop (gapL false l)) with
      | err e => rfl
      | tok kd t n w =>
        have hb := (tok1_bd (drop_ne h) ht).1
        have := lexF_lexG f (k + 1) (p + gapL false l + w) (l.drop (gapL false l + w)) (by simp; omega)
        simp only [this]
        rw [if_neg (by omega)]
def lexR (p : Nat) (l : List UInt8) : List Tok × Int × Int := lexG (l.length + 1) p l
theorem lexL_lexR {l : List UInt8} (h : l.length ≤ 5000) : lexL l = lexR 0 l := by
  unfold lexL lexR
  rw [if_neg (by omega), lexF_lexG _ _ _ _ (by omega)]
theorem lexR_end {p : Nat} {l : List UInt8} (h : l.length ≤ gapL false l) : lexR p l = ([], 0, 0) := by
  unfold lexR; simp only [lexG]; rw [if_pos h]
theorem lexR_err {p : Nat} {l : List UInt8} {e : Int} (h : gapL false l < l.length) (ht : tok1 (l.drop (gapL false l)) = .err e) : lexR p l = ([], e, ((p + gapL false l : Nat) : Int)) := by
  unfold lexR; simp only [lexG]; rw [if_neg (by omega), ht]
theorem lexR_tok {p : Nat} {l : List UInt8} {k n : Int} {t : List UInt8} {w : Nat} (h : gapL false l < l.length) (ht : tok1 (l.drop (gapL false l)) = .tok k t n w) :
    lexR p l = joinR [⟨k, t, n, p + gapL false l⟩] (lexR (p + gapL false l + w) (l.drop (gapL false l + w))) := by
  unfold lexR
  have hb := (tok1_bd (drop_ne (by omega)) ht).1
  rw [lexG, if_neg (by omega), ht]
  simp only
  rw [lexG_fuel (l.length) ((l.drop (gapL false l + w)).length + 1) _ _ (by simp; omega) (by omega)]
theorem lexR_ind {P : List UInt8 → Prop} (h : ∀ l, (∀ l' : List UInt8, l'.length < l.length → P l') → P l) (l : List UInt8) : P l := by
  suffices hs : ∀ n (l : List UInt8), l.length < n → P l from hs (l.length + 1) l (by omega)
  intro n
  induction n with
  | zero => intro l hl; omega
  | succ n ih => intro l _; exact h l (fun l' hl' => ih l' (by omega))
end Go.Proofs.YtbkheiilcfhfpaaDoor
