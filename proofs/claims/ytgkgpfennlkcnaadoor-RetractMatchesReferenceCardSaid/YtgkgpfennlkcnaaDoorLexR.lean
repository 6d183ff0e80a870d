/- The lexer, plain: what a token depends on; the list of tokens without limits. -/
import Derived.Test.YtgkgpfennlkcnaaDoorLexPure
namespace Go.Proofs.YtgkgpfennlkcnaaDoor

theorem cls_digit_any : ∀ n : Nat, n < 256 → (clsN n = 8 ↔ (n = 60 ∨ n = 62 ∨ n = 61)) := by decide +kernel
theorem cls_lf : cls 10 = 1 := by decide
theorem cls_eq61 : cls 61 = 8 := by decide
/-- nothing continues the token -/
def Stop (k : Int) (t x : List UInt8) : Prop := ((k = 1 ∨ k = 2) → atC x 0 ≠ 3 ∧ atC x 0 ≠ 4 ∧ atC x 0 ≠ 5) ∧ (k = 4 → t.length = 1 → (atC t 0 = 7 ∨ atC t 0 = 8) → x.head? ≠ some 61)
/-- a token's bytes -/
def wrt (k : Int) (t : List UInt8) : List UInt8 := if k = 3 then 34 :: (t ++ [34]) else t

theorem spanC_app {cs : List Nat} {a x : List UInt8} (ha : ∀ b ∈ a, cs.contains (cls b) = true) (hx : ∀ b, x.head? = some b → cs.contains (cls b) = false) : spanC cs (a ++ x) = a.length := by
  unfold spanC
  induction a with
  | nil =>
    cases x with
    | nil => rfl
    | cons b x => simp only [List.nil_append, List.takeWhile_cons]; rw [hx b rfl]; rfl
  | cons b a ih =>
    rw [List.cons_append, List.takeWhile_cons, ha b (by simp)]
    simp only [if_true, List.length_cons]
    rw [ih (fun c hc => ha c (by simp [hc]))]
theorem spanC_mem {cs : List Nat} {s : List UInt8} : ∀ b ∈ s.take (spanC cs s), cs.contains (cls b) = true := by
  intro b hb
  obtain ⟨i, hi⟩ := List.getElem?_of_mem hb
  rw [List.getElem?_take] at hi
  split at hi
  · exact spanC_all (by assumption) hi
  · cases hi
theorem atC_head {x : List UInt8} : atC x 0 = match x.head? with | some b => cls b | none => 0 := by cases x <;> rfl
theorem contains345 {n : Nat} (h : n ≠ 3 ∧ n ≠ 4 ∧ n ≠ 5) : [3, 4, 5].contains n = false := by
  obtain ⟨h1, h2, h3⟩ := h
  simp [h1, h2, h3]
theorem atC_of_head {x : List UInt8} {b : UInt8} (h : x.head? = some b) : atC x 0 = cls b := by cases x <;> simp at h; subst h; rfl
theorem head_drop_atC (s : List UInt8) (w : Nat) : atC (s.drop w) 0 = atC s w := by rw [atC_drop]; rfl
theorem spanC_atC {cs : List Nat} {s : List UInt8} (h0 : cs.contains 0 = false) : cs.contains (atC s (spanC cs s)) = false := by
  unfold atC
  split
  · rename_i b hb; exact spanC_end hb
  · exact h0
theorem indexAny_some {cs : List UInt8} : ∀ {l : List UInt8} {n : Nat}, Lib.indexAny l cs = n → (∀ b ∈ l.take n, cs.contains b = false) ∧ ∃ c, l[n]? = some c ∧ cs.contains c = true
  | [], n, h => by simp only [Lib.indexAny] at h; omega
  | b :: l, n, h => by
    have hge := Lib.indexAny_ge cs l
    unfold Lib.indexAny at h
    by_cases hb : cs.contains b = true
    · rw [if_pos hb] at h
      obtain rfl : n = 0 := by omega
      exact ⟨by simp, b, rfl, hb⟩
    · rw [if_neg hb] at h
      by_cases hm : Lib.indexAny l cs = -1
      · rw [hm] at h; simp at h
      · have hm' : ¬ (Lib.indexAny l cs == -1) = true := by simpa using hm
        rw [if_neg hm'] at h
        obtain ⟨m, rfl⟩ : ∃ m, n = m + 1 := ⟨n - 1, by omega⟩
        obtain ⟨h1, c, h2, h3⟩ := indexAny_some (cs := cs) (l := l) (n := m) (by omega)
        refine ⟨?_, c, by simpa using h2, h3⟩
        intro x hx
        rw [List.take_succ_cons, List.mem_cons] at hx
        rcases hx with rfl | hx
        · simpa using hb
        · exact h1 x hx
theorem indexAny_is {cs : List UInt8} : ∀ {l : List UInt8} {n : Nat} {c : UInt8}, (∀ b ∈ l.take n, cs.contains b = false) → l[n]? = some c → cs.contains c = true → Lib.indexAny l cs = n
  | [], n, c, _, h, _ => by simp at h
  | b :: l, n, c, h1, h2, h3 => by
    unfold Lib.indexAny
    cases n with
    | zero => simp at h2; subst h2; rw [if_pos h3]; rfl
    | succ n =>
      have hb : cs.contains b = false := h1 b (by simp)
      have ih := indexAny_is (l := l) (n := n) (c := c) (fun x hx => h1 x (by rw [List.take_succ_cons]; simp [hx])) (by simpa using h2) h3
      rw [if_neg (by rw [hb]; simp), ih, if_neg (by simp)]
      push_cast; rfl
theorem indexAny_none {cs : List UInt8} : ∀ {l : List UInt8}, Lib.indexAny l cs < 0 → ∀ b ∈ l, cs.contains b = false
  | [], _ => by simp
  | b :: l, h => by
    have hge := Lib.indexAny_ge cs l
    unfold Lib.indexAny at h
    by_cases hb : cs.contains b = true
    · rw [if_pos hb] at h; omega
    · rw [if_neg hb] at h
      by_cases hm : Lib.indexAny l cs = -1
      · have ih := indexAny_none (cs := cs) (l := l) (by omega)
        intro x hx
        rw [List.mem_cons] at hx
        rcases hx with rfl | hx
        · simpa using hb
        · exact ih x hx
      · have hm' : ¬ (Lib.indexAny l cs == -1) = true := by simpa using hm
        rw [if_neg hm'] at h; omega
theorem cls6 {b : UInt8} (h : cls b = 6) : b = 34 := by
  have : ∀ n : Nat, n < 256 → clsN n = 6 → n = 34 := by decide +kernel
  exact UInt8.toNat_inj.1 (this _ b.toNat_lt h)
theorem take_app_len {α : Type} (a x : List α) : (a ++ x).take a.length = a := by simp

/-- **what a token depends on** -/
theorem tok1_stop {s : List UInt8} (hs : s ≠ []) {k n : Int} {t : List UInt8} {w : Nat} (h : tok1 s = .tok k t n w) :
    Stop k t (s.drop w) ∧ s.take w = wrt k t ∧ (wrt k t).length = w ∧ (1 ≤ k ∧ k ≤ 4) ∧ ∀ x, Stop k t x → tok1 (wrt k t ++ x) = .tok k t n w := by
  obtain ⟨hw1, hw2, -, -⟩ := tok1_bd hs h
  obtain ⟨b, r, rfl⟩ := List.exists_cons_of_ne_nil hs
  have e0 : atC (b :: r) 0 = cls b := atC_some rfl
  unfold tok1 at h
  rw [e0] at h
  by_cases h3 : cls b = 3
  · rw [if_pos h3] at h
    by_cases hl : 24 < spanC [3, 4, 5] (b :: r)
    · rw [if_pos hl] at h; cases h
    · rw [if_neg hl] at h
      injection h with g1 g2 g3 g4
      subst g1 g2 g3
      rw [g4] at hl ⊢
      have hwl : ((b :: r).take w).length = w := by rw [List.length_take]; omega
      have hat := spanC_atC (cs := [3, 4, 5]) (s := b :: r) (by decide)
      rw [g4] at hat
      refine ⟨⟨fun _ => ?_, fun hk => by omega⟩, by simp [wrt], by simpa [wrt] using hwl, by omega, fun x hx => ?_⟩
      · rw [head_drop_atC]
        simp at hat
        exact hat
      · have hx' := hx.1 (.inl rfl)
        have hsp : spanC [3, 4, 5] ((b :: r).take w ++ x) = w := by
          conv => rhs; rw [← hwl]
          apply spanC_app
          · rw [← g4]; exact spanC_mem
          · intro c hc; rw [← atC_of_head hc]; exact contains345 hx'
        have hh : atC ((b :: r).take w ++ x) 0 = 3 := by
          obtain ⟨w', rfl⟩ : ∃ w', w = w' + 1 := ⟨w - 1, by omega⟩
          rw [List.take_succ_cons, List.cons_append]; exact h3
        have hwr : wrt 1 ((b :: r).take w) = (b :: r).take w := rfl
        rw [hwr]
        unfold tok1
        rw [if_pos hh, hsp, if_neg hl]
        have : ((b :: r).take w ++ x).take w = (b :: r).take w := by rw [List.take_append_of_le_length (by omega), List.take_of_length_le (by omega)]
        rw [this]
  · rw [if_neg h3] at h
    by_cases h4 : cls b = 4
    · rw [if_pos h4] at h
      by_cases hl : 13 < spanC [4] (b :: r) ∨ atC (b :: r) (spanC [4] (b :: r)) = 3 ∨ atC (b :: r) (spanC [4] (b :: r)) = 5
      · rw [if_pos hl] at h; cases h
      · rw [if_neg hl] at h
        injection h with g1 g2 g3 g4
        subst g1 g2 g3
        rw [g4] at hl ⊢
        have hwl : ((b :: r).take w).length = w := by rw [List.length_take]; omega
        have hat := spanC_atC (cs := [4]) (s := b :: r) (by decide)
        rw [g4] at hat
        refine ⟨⟨fun _ => ?_, fun hk => by omega⟩, by simp [wrt], by simpa [wrt] using hwl, by omega, fun x hx => ?_⟩
        · rw [head_drop_atC]
          simp at hat
          omega
        · have hx' := hx.1 (.inr rfl)
          have hsp : spanC [4] ((b :: r).take w ++ x) = w := by
            conv => rhs; rw [← hwl]
            apply spanC_app
            · rw [← g4]; exact spanC_mem
            · intro c hc; rw [← atC_of_head hc]; simp; omega
          have hh : atC ((b :: r).take w ++ x) 0 = 4 := by
            obtain ⟨w', rfl⟩ : ∃ w', w = w' + 1 := ⟨w - 1, by omega⟩
            rw [List.take_succ_cons, List.cons_append]; exact h4
          have hwr : wrt 2 ((b :: r).take w) = (b :: r).take w := rfl
          have hw3 : atC ((b :: r).take w ++ x) w = atC x 0 := by
            rw [← head_drop_atC, List.drop_append_of_le_length (by omega), List.drop_of_length_le (by omega)]; rfl
          rw [hwr]
          unfold tok1
          rw [hh, if_neg (by omega), if_pos rfl, hsp, if_neg (by rw [hw3]; omega)]
          have : ((b :: r).take w ++ x).take w = (b :: r).take w := by rw [List.take_append_of_le_length (by omega), List.take_of_length_le (by omega)]
          rw [this]
    · rw [if_neg h4] at h
      by_cases h6 : cls b = 6
      · rw [if_pos h6] at h
        obtain rfl := cls6 h6
        replace h : (if Lib.indexAny r [34, 10] < 0 ∨ r[(Lib.indexAny r [34, 10]).toNat]? = some 10 then Tk.err 6 else if 400 < Lib.indexAny r [34, 10] then Tk.err 2 else Tk.tok 3 (r.take (Lib.indexAny r [34, 10]).toNat) 0 ((Lib.indexAny r [34, 10]).toNat + 2)) = .tok k t n w := h
        by_cases hl : Lib.indexAny r [34, 10] < 0 ∨ r[(Lib.indexAny r [34, 10]).toNat]? = some 10
        · rw [if_pos hl] at h; cases h
        · rw [if_neg hl] at h
          by_cases hm : 400 < Lib.indexAny r [34, 10]
          · rw [if_pos hm] at h; cases h
          · rw [if_neg hm] at h
            obtain ⟨m, hmm⟩ : ∃ m : Nat, Lib.indexAny r [34, 10] = m := ⟨(Lib.indexAny r [34, 10]).toNat, by omega⟩
            obtain ⟨i1, c, i2, i3⟩ := indexAny_some hmm
            rw [hmm] at h hl hm
            have e1 : ((m : Nat) : Int).toNat = m := by omega
            rw [e1] at h hl
            injection h with g1 g2 g3 g4
            subst g1 g2 g3
            have hc : c = 34 := by
              have : ¬ c = 10 := fun e => hl (.inr (by rw [i2, e]))
              simp at i3
              rcases i3 with i3 | i3
              · exact i3
              · exact absurd i3 this
            subst hc
            have hml := (List.getElem?_eq_some_iff.1 i2).1
            have htl : (r.take m).length = m := by rw [List.length_take]; omega
            have hwr : wrt 3 (r.take m) = 34 :: (r.take m ++ [34]) := rfl
            refine ⟨⟨fun hk => by omega, fun hk => by omega⟩, ?_, by rw [hwr]; simp; omega, by omega, fun x _ => ?_⟩
            · rw [hwr, ← g4, List.take_succ_cons, List.take_add_one, i2]; rfl
            · rw [hwr]
              unfold tok1
              have hh : atC (34 :: (r.take m ++ [34]) ++ x) 0 = 6 := by rfl
              have htail : (34 :: (r.take m ++ [34]) ++ x).tail = r.take m ++ ([34] ++ x) := by simp
              have hi : Lib.indexAny (r.take m ++ ([34] ++ x)) [34, 10] = m := by
                apply indexAny_is (c := 34)
                · rw [List.take_append_of_le_length (by omega), List.take_of_length_le (by omega)]; exact i1
                · rw [List.getElem?_append_right (by omega), htl]; simp
                · decide
              rw [hh, if_neg (by omega), if_neg (by omega), if_pos rfl, htail, hi, e1, if_neg, if_neg hm]
              · rw [List.take_append_of_le_length (by omega), List.take_of_length_le (l := r.take m) (by omega), ← g4]
              · rintro (h | h)
                · omega
                · rw [List.getElem?_append_right (by omega), htl] at h; simp at h
      · rw [if_neg h6] at h
        replace h : (if cls b = 7 ∨ cls b = 8 then (if r.head? = some 61 then Tk.tok 4 ((b :: r).take 2) 0 2 else if cls b = 7 then .err 3 else .tok 4 ((b :: r).take 1) 0 1) else if cls b = 9 then .tok 4 ((b :: r).take 1) 0 1 else .err 3) = .tok k t n w := h
        by_cases h78 : cls b = 7 ∨ cls b = 8
        · rw [if_pos h78] at h
          by_cases hq : r.head? = some 61
          · rw [if_pos hq] at h
            injection h with g1 g2 g3 g4
            subst g1 g2 g3 g4
            obtain ⟨r', rfl⟩ : ∃ r', r = 61 :: r' := by cases r with | nil => simp at hq | cons c r' => simp at hq; exact ⟨r', by rw [hq]⟩
            refine ⟨⟨fun hk => by omega, fun _ hk => by simp at hk⟩, rfl, rfl, by omega, fun x _ => ?_⟩
            show tok1 (b :: 61 :: x) = _
            unfold tok1
            have hh : atC (b :: 61 :: x) 0 = cls b := rfl
            rw [hh, if_neg h3, if_neg h4, if_neg h6, if_pos h78, if_pos (show (b :: 61 :: x).tail.head? = some 61 from rfl)]; rfl
          · rw [if_neg hq] at h
            by_cases h7 : cls b = 7
            · rw [if_pos h7] at h; cases h
            · rw [if_neg h7] at h
              injection h with g1 g2 g3 g4
              subst g1 g2 g3 g4
              refine ⟨⟨fun hk => by omega, fun _ _ _ => by simpa using hq⟩, rfl, rfl, by omega, fun x hx => ?_⟩
              have hx' := hx.2 rfl rfl (by show cls b = 7 ∨ cls b = 8; exact h78)
              show tok1 (b :: x) = _
              unfold tok1
              have hh : atC (b :: x) 0 = cls b := rfl
              rw [hh, if_neg h3, if_neg h4, if_neg h6, if_pos h78, if_neg (by simpa using hx'), if_neg h7]; rfl
        · rw [if_neg h78] at h
          by_cases h9 : cls b = 9
          · rw [if_pos h9] at h
            injection h with g1 g2 g3 g4
            subst g1 g2 g3 g4
            refine ⟨⟨fun hk => by omega, fun _ _ hk => absurd hk h78⟩, rfl, rfl, by omega, fun x _ => ?_⟩
            show tok1 (b :: x) = _
            unfold tok1
            have hh : atC (b :: x) 0 = cls b := rfl
            rw [hh, if_neg h3, if_neg h4, if_neg h6, if_neg h78, if_pos h9]; rfl
          · rw [if_neg h9] at h; cases h
end Go.Proofs.YtgkgpfennlkcnaaDoor
