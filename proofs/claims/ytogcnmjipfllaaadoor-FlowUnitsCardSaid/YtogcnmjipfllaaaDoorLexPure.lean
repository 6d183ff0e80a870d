/- The lexer, plain: bytes to tokens. No program in sight. -/
import Derived.Test.YtogcnmjipfllaaaDoorLib
import Derived.Lib.IndexAny
import Derived.Lib.AtoiTie
namespace Go.Proofs.YtogcnmjipfllaaaDoor

/-- the class of a byte -/
def clsN (n : Nat) : Nat :=
  if (97 ≤ n ∧ n ≤ 122) ∨ (65 ≤ n ∧ n ≤ 90) then 3
  else if 48 ≤ n ∧ n ≤ 57 then 4
  else if n = 95 then 5
  else if n = 32 ∨ n = 9 ∨ n = 10 then 1
  else if n = 35 then 2
  else if n = 34 then 6
  else if n = 33 then 7
  else if n = 60 ∨ n = 62 ∨ n = 61 then 8
  else if n = 59 ∨ n = 44 ∨ n = 46 ∨ n = 58 ∨ n = 40 ∨ n = 41 ∨ n = 91 ∨ n = 93 ∨ n = 123 ∨ n = 125 ∨ n = 43 ∨ n = 45 ∨ n = 42 ∨ n = 47 then 9
  else 0
def cls (b : UInt8) : Nat := clsN b.toNat
def atC (l : List UInt8) (i : Nat) : Nat := match l[i]? with | some b => cls b | none => 0
theorem atC_some {l : List UInt8} {i : Nat} {b : UInt8} (h : l[i]? = some b) : atC l i = cls b := by unfold atC; rw [h]
theorem atC_none {l : List UInt8} {i : Nat} (h : l.length ≤ i) : atC l i = 0 := by unfold atC; rw [List.getElem?_eq_none h]
theorem cls_le (b : UInt8) : cls b ≤ 9 := by
  have : ∀ n : Nat, n < 256 → clsN n ≤ 9 := by decide +kernel
  exact this _ b.toNat_lt
theorem atC_le (l : List UInt8) (i : Nat) : atC l i ≤ 9 := by unfold atC; split; exact cls_le _; omega
theorem atC_drop (l : List UInt8) (i j : Nat) : atC (l.drop i) j = atC l (i + j) := by unfold atC; rw [List.getElem?_drop]

/-- how many bytes of some classes there are at the beginning -/
def spanC (cs : List Nat) (l : List UInt8) : Nat := (l.takeWhile (fun b => cs.contains (cls b))).length
theorem spanC_le (cs : List Nat) (l : List UInt8) : spanC cs l ≤ l.length := by
  unfold spanC
  induction l with
  | nil => simp
  | cons b l ih => rw [List.takeWhile_cons]; split <;> simp only [List.length_cons, List.length_nil] <;> omega
theorem spanC_step {cs : List Nat} {l : List UInt8} {k : Nat} (hk : k < l.length) (h : cs.contains (atC l k) = true) : spanC cs (l.drop k) = 1 + spanC cs (l.drop (k + 1)) := by
  unfold spanC
  rw [List.drop_eq_getElem_cons hk, List.takeWhile_cons]
  rw [atC_some (List.getElem?_eq_getElem hk)] at h
  rw [h]; simp only [if_true, List.length_cons]; omega
theorem spanC_stop {cs : List Nat} {l : List UInt8} {k : Nat} (h : l.length ≤ k ∨ cs.contains (atC l k) = false) : spanC cs (l.drop k) = 0 := by
  unfold spanC
  by_cases hk : k < l.length
  · rw [List.drop_eq_getElem_cons hk, List.takeWhile_cons]
    rcases h with h | h
    · omega
    · rw [atC_some (List.getElem?_eq_getElem hk)] at h
      rw [h]; simp
  · rw [List.drop_eq_nil_of_le (by omega)]; simp
theorem spanC_all {cs : List Nat} {l : List UInt8} {j : Nat} {b : UInt8} (h : j < spanC cs l) (hb : l[j]? = some b) : cs.contains (cls b) = true := by
  unfold spanC at h
  induction l generalizing j with
  | nil => simp at hb
  | cons a l ih =>
    rw [List.takeWhile_cons] at h
    split at h
    · cases j with
      | zero => simp at hb; subst hb; assumption
      | succ j =>
        simp only [List.length_cons] at h
        exact ih (j := j) (by omega) (by simpa using hb)
    · simp at h
theorem spanC_end {cs : List Nat} {l : List UInt8} {b : UInt8} (hb : l[spanC cs l]? = some b) : cs.contains (cls b) = false := by
  unfold spanC at hb
  induction l with
  | nil => simp at hb
  | cons a l ih =>
    rw [List.takeWhile_cons] at hb
    split at hb
    · exact ih (by simpa using hb)
    · rename_i h
      simp at hb; subst hb; simpa using h

/-- the length of the gaps at the beginning; c: within a comment -/
def gapL : Bool → List UInt8 → Nat
  | _, [] => 0
  | true, b :: l => 1 + gapL (!(b == 10)) l
  | false, b :: l => if cls b = 1 then 1 + gapL false l else if b = 35 then 1 + gapL true l else 0
theorem gapL_le (c : Bool) (l : List UInt8) : gapL c l ≤ l.length := by
  induction l generalizing c with
  | nil => cases c <;> simp [gapL]
  | cons b l ih =>
    cases c
    · simp only [gapL]
      have h1 := ih false
      have h2 := ih true
      split <;> (try split) <;> simp <;> omega
    · simp only [gapL]; have := ih (!(b == 10)); simp; omega
theorem cls10 : cls 10 = 1 := by decide
theorem cls_two (b : UInt8) : cls b = 2 ↔ b = 35 := by
  constructor
  · intro h
    have : ∀ n : Nat, n < 256 → clsN n = 2 → n = 35 := by decide +kernel
    have : b.toNat = 35 := this _ b.toNat_lt h
    exact UInt8.toNat_inj.1 this
  · rintro rfl; decide
theorem gapL_blank (l : List UInt8) : gapL false l = spanC [1] l + gapL false (l.drop (spanC [1] l)) := by
  unfold spanC
  induction l with
  | nil => simp [gapL]
  | cons b l ih =>
    rw [List.takeWhile_cons]
    by_cases h : cls b = 1
    · have hc : [1].contains (cls b) = true := by simp [h]
      rw [if_pos hc]
      simp only [gapL, if_pos h, List.length_cons, List.drop_succ_cons]
      omega
    · have hc : ¬ [1].contains (cls b) = true := by simp; exact h
      rw [if_neg hc]; simp
theorem gapL_stop {l : List UInt8} (h1 : atC l 0 ≠ 1) (h2 : atC l 0 ≠ 2) : gapL false l = 0 := by
  cases l with
  | nil => rfl
  | cons b l =>
    rw [atC_some (b := b) rfl] at h1 h2
    simp only [gapL, if_neg h1]
    rw [if_neg]
    intro e; exact h2 ((cls_two b).2 e)
theorem gapL_comment (l : List UInt8) : (Lib.indexByte l 10 < 0 → gapL true l = l.length) ∧ ∀ n : Nat, Lib.indexByte l 10 = n → gapL true l = n + gapL false (l.drop n) := by
  induction l with
  | nil => exact ⟨fun _ => rfl, fun n h => absurd h (by simp only [Lib.indexByte]; omega)⟩
  | cons b l ih =>
    have hge := Lib.indexByte_ge l 10
    simp only [Lib.indexByte, gapL]
    by_cases hb : b = 10
    · subst hb
      simp only [beq_self_eq_true, if_true, Bool.not_true]
      refine ⟨fun h => by omega, fun n h => ?_⟩
      obtain rfl : n = 0 := by omega
      simp [gapL, cls10]
    · have hb' : (b == 10) = false := by simpa using hb
      simp only [hb', Bool.false_eq_true, if_false, Bool.not_false]
      obtain ⟨i1, i2⟩ := ih
      by_cases hm : Lib.indexByte l 10 = -1
      · rw [hm]
        refine ⟨fun _ => by rw [i1 (by omega), List.length_cons, Nat.add_comm], fun n h => absurd h (by simp only [beq_self_eq_true, if_true]; omega)⟩
      · have hm' : (Lib.indexByte l 10 == -1) = false := by simpa using hm
        simp only [hm', Bool.false_eq_true, if_false]
        refine ⟨fun h => by omega, fun n h => ?_⟩
        cases n with
        | zero => omega
        | succ n => rw [i2 n (by push_cast at h; omega)]; simp <;> omega
/-- a comment, then what follows -/
theorem gapL_hash {l : List UInt8} (h : atC l 0 = 2) : (Lib.indexByte l 10 < 0 → gapL false l = l.length) ∧ ∀ n : Nat, Lib.indexByte l 10 = n → gapL false l = n + gapL false (l.drop n) := by
  cases l with
  | nil => simp [atC] at h
  | cons b l =>
    rw [atC_some (b := b) rfl] at h
    obtain rfl := (cls_two b).1 h
    have hc : ¬ cls 35 = 1 := by decide
    have e : gapL false (35 :: l) = gapL true (35 :: l) := by simp only [gapL, if_neg hc]; simp
    rw [e]; exact gapL_comment _
theorem gapL_end {l : List UInt8} {b : UInt8} (hb : l[gapL false l]? = some b) : cls b ≠ 1 ∧ cls b ≠ 2 := by
  suffices h : ∀ (l : List UInt8) (c : Bool), l[gapL c l]? = some b → cls b ≠ 1 ∧ cls b ≠ 2 from h l false hb
  intro l
  induction l with
  | nil => intro c h; simp at h
  | cons a l ih =>
    intro c h
    cases c
    · simp only [gapL] at h
      split at h
      · rw [Nat.add_comm] at h; exact ih false (by simpa using h)
      · split at h
        · rw [Nat.add_comm] at h; exact ih true (by simpa using h)
        · rename_i h1 h2
          simp at h; subst h
          exact ⟨h1, fun e => h2 ((cls_two _).1 e)⟩
    · simp only [gapL] at h
      rw [Nat.add_comm] at h; exact ih _ (by simpa using h)

theorem indexAny_lt (cs : List UInt8) : ∀ l : List UInt8, Lib.indexAny l cs < (l.length : Int)
  | [] => by simp [Lib.indexAny]
  | b :: l => by
    have ih := indexAny_lt cs l
    rw [Lib.indexAny]
    rw [List.length_cons]
    push_cast
    split
    · omega
    · split <;> omega
/-! ### one token -/
inductive Tk where
  | err (e : Int)
  | tok (k : Int) (t : List UInt8) (n : Int) (w : Nat)
def numV (l : List UInt8) : Nat := l.foldl (fun a b => a * 10 + (b.toNat - 48)) 0
def tok1 (s : List UInt8) : Tk :=
  if atC s 0 = 3 then (if 24 < spanC [3, 4, 5] s then .err 2 else .tok 1 (s.take (spanC [3, 4, 5] s)) 0 (spanC [3, 4, 5] s))
  else if atC s 0 = 4 then (if 13 < spanC [4] s ∨ atC s (spanC [4] s) = 3 ∨ atC s (spanC [4] s) = 5 then .err 4 else .tok 2 (s.take (spanC [4] s)) (numV (s.take (spanC [4] s))) (spanC [4] s))
  else if atC s 0 = 6 then
    (if Lib.indexAny s.tail [34, 10] < 0 ∨ s.tail[(Lib.indexAny s.tail [34, 10]).toNat]? = some 10 then .err 6
     else if 400 < Lib.indexAny s.tail [34, 10] then .err 2
     else .tok 3 (s.tail.take (Lib.indexAny s.tail [34, 10]).toNat) 0 ((Lib.indexAny s.tail [34, 10]).toNat + 2))
  else if atC s 0 = 7 ∨ atC s 0 = 8 then
    (if s.tail.head? = some 61 then .tok 4 (s.take 2) 0 2 else if atC s 0 = 7 then .err 3 else .tok 4 (s.take 1) 0 1)
  else if atC s 0 = 9 then .tok 4 (s.take 1) 0 1
  else .err 3

structure Tok where
  k : Int
  t : List UInt8
  n : Int
  at_ : Nat
def joinR (ts : List Tok) (r : List Tok × Int × Int) : List Tok × Int × Int := if r.2.1 = 0 then (ts ++ r.1, 0, r.2.2) else ([], r.2.1, r.2.2)
/-- fuel, tokens so far, offset, what is left -/
def lexF : Nat → Nat → Nat → List UInt8 → List Tok × Int × Int
  | 0, _, _, _ => ([], 0, 0)
  | f + 1, k, p, l =>
    if l.length ≤ gapL false l then ([], 0, 0)
    else match tok1 (l.drop (gapL false l)) with
      | .err e => ([], e, ((p + gapL false l : Nat) : Int))
      | .tok kd t n w => if k = 5000 then ([], 2, ((p + gapL false l : Nat) : Int)) else joinR [⟨kd, t, n, p + gapL false l⟩] (lexF f (k + 1) (p + gapL false l + w) (l.drop (gapL false l + w)))
def lexL (l : List UInt8) : List Tok × Int × Int := if 20000 < l.length then ([], 2, -1) else lexF (l.length + 1) 0 0 l

theorem joinR_join (ts us : List Tok) (r : List Tok × Int × Int) : joinR ts (joinR us r) = joinR (ts ++ us) r := by
  unfold joinR
  by_cases h : r.2.1 = 0
  · simp [h]
  · simp [h]
theorem joinR_nil (r : List Tok × Int × Int) (h : r.2.1 ≠ 0 → r.1 = []) : joinR [] r = r := by
  unfold joinR
  obtain ⟨a, b, c⟩ := r
  by_cases hb : b = 0
  · simp [hb]
  · simp at h; simp [hb, h hb]
theorem lexF_err (f k p : Nat) (l : List UInt8) : (lexF f k p l).2.1 ≠ 0 → (lexF f k p l).1 = [] := by
  cases f with
  | zero => simp [lexF]
  | succ f =>
    rw [lexF]
    split
    · simp
    · split
      · simp
      · split
        · simp
        · unfold joinR; split
          · simp
          · simp
theorem tok1_bd {s : List UInt8} (hs : s ≠ []) {k n : Int} {t : List UInt8} {w : Nat} (h : tok1 s = .tok k t n w) : 1 ≤ w ∧ w ≤ s.length ∧ t.length ≤ 400 ∧ t.length ≤ w := by
  obtain ⟨b, r, rfl⟩ := List.exists_cons_of_ne_nil hs
  unfold tok1 at h
  have e0 : atC (b :: r) 0 = cls b := atC_some rfl
  rw [e0] at h
  split at h
  · rename_i hc3
    split at h
    · cases h
    · injection h with h1 h2 h3 h4
      subst h2 h4
      have hle := spanC_le [3, 4, 5] (b :: r)
      have h1 : spanC [3, 4, 5] ((b :: r).drop 0) = 1 + spanC [3, 4, 5] ((b :: r).drop 1) := spanC_step (by simp) (by rw [e0, hc3]; decide)
      rw [List.drop_zero] at h1
      refine ⟨by omega, hle, ?_, ?_⟩ <;> rw [List.length_take] <;> omega
  · split at h
    · rename_i hc3
      split at h
      · cases h
      · injection h with h1 h2 h3 h4
        subst h2 h4
        have hle := spanC_le [4] (b :: r)
        have h1 : spanC [4] ((b :: r).drop 0) = 1 + spanC [4] ((b :: r).drop 1) := spanC_step (by simp) (by rw [e0, hc3]; decide)
        rw [List.drop_zero] at h1
        refine ⟨by omega, hle, ?_, ?_⟩ <;> rw [List.length_take] <;> omega
    · split at h
      · split at h
        · cases h
        · rename_i hno
          split at h
          · cases h
          · injection h with h1 h2 h3 h4
            subst h2 h4
            have h0 : ¬ Lib.indexAny (b :: r).tail [34, 10] < 0 := fun h => hno (.inl h)
            have hlt := indexAny_lt [34, 10] (b :: r).tail
            simp only [List.tail_cons] at *
            refine ⟨by omega, by simp; omega, ?_, ?_⟩ <;> rw [List.length_take] <;> omega
      · split at h
        · split at h
          · rename_i hh
            injection h with h1 h2 h3 h4
            subst h2 h4
            simp only [List.tail_cons] at hh
            cases r with
            | nil => simp at hh
            | cons c r => simp
          · split at h
            · cases h
            · injection h with h1 h2 h3 h4
              subst h2 h4
              simp
        · split at h
          · injection h with h1 h2 h3 h4
            subst h2 h4
            simp
          · cases h
/-- an error is an error -/
theorem tok1_err {s : List UInt8} {e : Int} (h : tok1 s = .err e) : 2 ≤ e ∧ e ≤ 6 := by
  unfold tok1 at h
  repeat' split at h
  all_goals first | (injection h with h; omega) | cases h
end Go.Proofs.YtogcnmjipfllaaaDoor
