/- weather: texts, plain: what Parse says of a text that reads as the tokens of spells -/
import Derived.Test.YtbkheiilcfhfpaaDoorWeaText2
import Derived.Test.YtbkheiilcfhfpaaDoorWeaHead
import Derived.Test.YtbkheiilcfhfpaaDoorLexRd
namespace Go.Proofs.YtbkheiilcfhfpaaDoor
open Go.RowKit

def numsS (s : Sp) (os : List Nat) : List St := os.map fun o => (2, Lib.itoa (s.get o), s.get o)
def tailS (s : Sp) : List St := [(1, wFrom, 0), (2, Lib.itoa s.a, s.a), (1, wUntil, 0), (2, Lib.itoa s.b, s.b), (4, [59], 0)]
def strS (s : Sp) : List St := (1, kwL s.k, 0) :: (numsS s (offsK s.k) ++ tailS s)
def strL (L : List Sp) : List St := L.flatMap strS
theorem rd_tail {s : Sp} (hf : formB s = true) {l : List UInt8} {st : List St} (h : Rd l st) : Rd ([32, 102, 114, 111, 109, 32] ++ Lib.itoa s.a ++ [32, 117, 110, 116, 105, 108, 32] ++ Lib.itoa s.b ++ [59, 10] ++ l) (tailS s ++ st) := by
  obtain ⟨h1, h2, _⟩ := momsB hf
  have e : [32, 102, 114, 111, 109, 32] ++ Lib.itoa s.a ++ [32, 117, 110, 116, 105, 108, 32] ++ Lib.itoa s.b ++ [59, 10] ++ l = 32 :: (wFrom ++ (32 :: (Lib.itoa s.a ++ (32 :: (wUntil ++ (32 :: (Lib.itoa s.b ++ (59 :: (10 :: l))))))))) := by simp [wFrom, wUntil]
  rw [e]
  have a1 := (h.gap (b := 10) (by decide)).sym (b := 59) (by decide)
  have a2 := a1.num (n := s.b) (by omega) (by omega) (fun t => stop_sym (by decide) (.inr rfl))
  have a3 := (a2.gap (b := 32) (by decide)).name (t := wUntil) (by decide) (stop_sp (by decide))
  have a4 := (a3.gap (b := 32) (by decide)).num (n := s.a) (by omega) (by omega) (fun t => stop_sp (by decide))
  exact ((a4.gap (b := 32) (by decide)).name (t := wFrom) (by decide) (stop_sp (by decide))).gap (b := 32) (by decide)
theorem rd_nums {s : Sp} (hf : formB s = true) : ∀ (os : List Nat) (_ : ∀ o ∈ os, o ∈ offsK s.k) {b : UInt8} {l : List UInt8} {st : List St} (_ : cls b = 1) (_ : Rd (b :: l) st), Rd (numsT s os ++ (b :: l)) (numsS s os ++ st) ∧ ∃ c m, cls c = 1 ∧ numsT s os ++ (b :: l) = c :: m
  | [], _, b, l, st, hb, h => ⟨h, b, l, hb, rfl⟩
  | o :: os, ho, b, l, st, hb, h => by
    obtain ⟨i1, c, m, i2, i3⟩ := rd_nums hf os (fun x hx => ho x (List.mem_cons_of_mem _ hx)) hb h
    have hg := getB hf (ho o (List.mem_cons_self ..))
    have e : numsT s (o :: os) ++ (b :: l) = 32 :: (Lib.itoa (s.get o) ++ (numsT s os ++ (b :: l))) := by unfold numsT; simp
    rw [e]
    refine ⟨(i1.num (n := s.get o) (by omega) (by omega) (fun t => ?_)).gap (b := 32) (by decide), _, _, by decide, rfl⟩
    rw [i3]
    exact stop_sp i2
theorem kwL_name (k : Int) : nameB (kwL k) = true := by
  unfold kwL
  split
  · decide
  · split <;> decide
theorem rd_spell {s : Sp} (hf : formB s = true) {l : List UInt8} {st : List St} (h : Rd l st) : Rd (textS s ++ l) (strS s ++ st) := by
  have h1 := rd_tail hf h
  have e1 : [32, 102, 114, 111, 109, 32] ++ Lib.itoa s.a ++ [32, 117, 110, 116, 105, 108, 32] ++ Lib.itoa s.b ++ [59, 10] ++ l = 32 :: ([102, 114, 111, 109, 32] ++ Lib.itoa s.a ++ [32, 117, 110, 116, 105, 108, 32] ++ Lib.itoa s.b ++ [59, 10] ++ l) := by simp
  rw [e1] at h1
  obtain ⟨i1, c, m, i2, i3⟩ := rd_nums hf (offsK s.k) (fun _ h => h) (by decide) h1
  have e : textS s ++ l = kwL s.k ++ (numsT s (offsK s.k) ++ (32 :: ([102, 114, 111, 109, 32] ++ Lib.itoa s.a ++ [32, 117, 110, 116, 105, 108, 32] ++ Lib.itoa s.b ++ [59, 10] ++ l))) := by unfold textS; simp
  have e2 : strS s ++ st = (1, kwL s.k, 0) :: (numsS s (offsK s.k) ++ (tailS s ++ st)) := by unfold strS; simp
  rw [e, e2]
  exact i1.name (kwL_name s.k) (by rw [i3]; exact stop_sp i2)
theorem rd_text : ∀ {L : List Sp}, (∀ s ∈ L, formB s = true) → Rd (textL L) (strL L)
  | [], _ => Rd.nil
  | s :: L, h => by
    have e : textL (s :: L) = textS s ++ textL L := by simp [textL]
    have e2 : strL (s :: L) = strS s ++ strL L := by simp [strL]
    rw [e, e2]
    exact rd_spell (h s (by simp)) (rd_text (fun x hx => h x (by simp [hx])))

/-! ### what the parser makes of such tokens -/
theorem map_cons {ts : List Tok} {c : St} {st : List St} (h : ts.map stR = c :: st) : ∃ t r, ts = t :: r ∧ stR t = c ∧ r.map stR = st := by
  cases ts with
  | nil => simp at h
  | cons t r => simp at h; exact ⟨t, r, rfl, h.1, h.2⟩
theorem nx_st {en k n : Int} {t : List UInt8} {ts : List Tok} {st : List St} (h : ts.map stR = (k, t, n) :: st) : ∃ tk r, nx en k ts = .ok tk r ∧ tk.t = t ∧ tk.n = n ∧ r.map stR = st := by
  obtain ⟨tk, r, rfl, h1, h2⟩ := map_cons h
  simp only [stR, Prod.mk.injEq] at h1
  exact ⟨tk, r, by simp only [nx]; rw [if_pos h1.1], h1.2.1, h1.2.2, h2⟩
theorem mst_st {en k n : Int} {t : List UInt8} {ts : List Tok} {st : List St} (h : ts.map stR = (k, t, n) :: st) : ∃ a r, mst en k t ts = .ok a r ∧ r.map stR = st := by
  obtain ⟨tk, r, h1, h2, h3, h4⟩ := nx_st (en := en) h
  exact ⟨tk.at_, r, by unfold mst; rw [h1]; simp only; rw [if_pos h2], h4⟩
theorem nums_st {en : Int} {s : Sp} : ∀ (os : List Nat) (x : Sp) {ts : List Tok} {st : List St}, ts.map stR = numsS s os ++ st → ∃ r, numsP en os x ts = .ok (os.foldl (fun y o => y.setF o (s.get o)) x) r ∧ r.map stR = st
  | [], x, ts, st, h => ⟨ts, rfl, h⟩
  | o :: os, x, ts, st, h => by
    obtain ⟨tk, r, h1, h2, h3, h4⟩ := nx_st (en := en) (k := 2) (t := Lib.itoa (s.get o)) (n := s.get o) (st := numsS s os ++ st) h
    obtain ⟨r', i1, i2⟩ := nums_st (en := en) os (x.setF o (s.get o)) h4
    refine ⟨r', ?_, i2⟩
    unfold numsP
    rw [h1]
    simp only
    rw [h3, i1]; rfl
theorem tail_st {en : Int} {s x : Sp} {ts : List Tok} {st : List St} (h : ts.map stR = tailS s ++ st) : ∃ d r, tailP en x ts = .ok ({ x with a := s.a, b := s.b }, d) r ∧ r.map stR = st := by
  obtain ⟨a1, r1, h1, k1⟩ := mst_st (en := en) (k := 1) (t := wFrom) h
  obtain ⟨t2, r2, h2, _, n2, k2⟩ := nx_st (en := en) (k := 2) k1
  obtain ⟨a3, r3, h3, k3⟩ := mst_st (en := en) (k := 1) (t := wUntil) k2
  obtain ⟨t4, r4, h4, _, n4, k4⟩ := nx_st (en := en) (k := 2) k3
  obtain ⟨a5, r5, h5, k5⟩ := mst_st (en := en) (k := 4) (t := [59]) k4
  refine ⟨a5, r5, ?_, k5⟩
  unfold tailP; rw [h1]; simp only
  unfold tail2; rw [h2]; simp only
  unfold tail3; rw [h3]; simp only
  unfold tail4; rw [h4]; simp only
  unfold tail5; rw [h5]; simp only
  rw [n2, n4]
theorem kindOf_kwL {k : Int} (h : isK k = true) : kindOf (kwL k) = k := by
  rcases isK_iff.1 h with rfl | rfl | rfl <;> decide
theorem form_isK {s : Sp} (hf : formB s = true) : isK s.k = true := by
  unfold formB at hf
  simp only [Bool.and_eq_true] at hf
  exact hf.1.1.1.1
theorem form_back {s : Sp} (hf : formB s = true) : ({ ((offsK s.k).foldl (fun y o => y.setF o (s.get o)) { sp0 with k := s.k }) with a := s.a, b := s.b } : Sp) = s := by
  have hk := form_isK hf
  unfold formB at hf
  simp only [Bool.and_eq_true] at hf
  have hv := hf.2
  clear hf
  obtain ⟨k, q, n, a, b⟩ := s
  rcases isK_iff.1 hk with h | h | h
  all_goals
    simp only at h
    subst h
    simp [valK, inR] at hv
    simp [offsK, Sp.setF, Sp.get, sp0]
    try omega
theorem one_st {en : Int} {k : Nat} (hk : k < 200) {s : Sp} (hf : formB s = true) {ts : List Tok} {st : List St} (h : ts.map stR = strS s ++ st) : ∃ r, oneP en k ts = .ok s r ∧ r.map stR = st := by
  have hK := form_isK hf
  obtain ⟨t1, r1, h1, e1, _, k1⟩ := nx_st (en := en) (k := 1) (t := kwL s.k) (n := 0) (st := numsS s (offsK s.k) ++ (tailS s ++ st)) (by rw [h]; unfold strS; simp)
  obtain ⟨r2, h2, k2⟩ := nums_st (en := en) (s := s) (offsK s.k) { sp0 with k := s.k } k1
  obtain ⟨d, r3, h3, k3⟩ := tail_st (en := en) (x := (offsK s.k).foldl (fun y o => y.setF o (s.get o)) { sp0 with k := s.k }) k2
  refine ⟨r3, ?_, k3⟩
  have h0 : ¬ s.k = 0 := by rcases isK_iff.1 hK with e | e | e <;> rw [e] <;> decide
  have hs : spellP en ts = .ok (s, d) r3 := by
    unfold spellP
    rw [h1]; simp only
    rw [e1, kindOf_kwL hK, if_neg h0, h2]; simp only
    rw [h3, form_back hf]
  unfold oneP judge
  rw [hs]; simp only
  rw [hf, if_neg (by simp), if_neg (by omega)]
theorem go_st {en : Int} : ∀ (L : List Sp) (f k : Nat) (ts : List Tok), (∀ s ∈ L, formB s = true) → k + L.length ≤ 200 → L.length < f → ts.map stR = strL L → goP en f k ts = (L, 0, 0)
  | [], f, k, ts, _, _, hf, h => by
    obtain ⟨f, rfl⟩ : ∃ f', f = f' + 1 := ⟨f - 1, by omega⟩
    have : ts = [] := by simpa [strL] using h
    subst this
    rfl
  | s :: L, f, k, ts, hv, hk, hf, h => by
    obtain ⟨f, rfl⟩ : ∃ f', f = f' + 1 := ⟨f - 1, by omega⟩
    simp only [List.length_cons] at hk hf
    obtain ⟨r, h1, h2⟩ := one_st (en := en) (k := k) (by omega) (hv s (by simp)) (ts := ts) (st := strL L) (by rw [h]; simp [strL])
    have hne : ts ≠ [] := by rintro rfl; simp [strL, strS] at h
    rw [goP, if_neg hne, h1]
    simp only
    rw [go_st L f (k + 1) r (fun x hx => hv x (by simp [hx])) (by omega) (by omega) h2]
    rfl
theorem strL_len (L : List Sp) : L.length ≤ (strL L).length := by
  induction L with
  | nil => simp
  | cons s L ih =>
    have : strL (s :: L) = strS s ++ strL L := by simp [strL]
    rw [this, List.length_append, List.length_cons]
    have : 1 ≤ (strS s).length := by simp [strS]
    omega
theorem parse_st {L : List Sp} {l : List UInt8} (hv : allB L = true) (h : Rd l (strL L)) (hl : l.length ≤ 5000) : parseL l = (L, 0, 0) := by
  unfold allB at hv
  simp only [Bool.and_eq_true, decide_eq_true_eq, List.all_eq_true] at hv
  obtain ⟨h1, h2, h3⟩ := h.lex hl
  unfold parseL
  rw [if_pos h1]
  refine go_st L _ 0 _ hv.2 (by omega) ?_ h3
  have := strL_len L
  have hh := congrArg List.length h3
  rw [List.length_map] at hh
  omega
theorem oneP_form {en : Int} {k : Nat} {ts r : List Tok} {s : Sp} (h : oneP en k ts = .ok s r) : formB s = true := by
  unfold oneP judge at h
  split at h
  · cases h
  · split at h
    · cases h
    · split at h
      · cases h
      · cases h
        rename_i hn _
        simpa using hn
theorem goP_form {en : Int} : ∀ (f k : Nat) (ts : List Tok), ∀ s ∈ (goP en f k ts).1, formB s = true := by
  intro f
  induction f with
  | zero => intro k ts s hs; simp [goP] at hs
  | succ f ih =>
    intro k ts s hs
    rw [goP] at hs
    split at hs
    · simp at hs
    · split at hs
      · simp at hs
      · rename_i x r ho
        unfold joinS at hs
        split at hs
        · rw [List.mem_append] at hs
          rcases hs with hs | hs
          · rw [List.mem_singleton] at hs
            subst hs
            exact oneP_form ho
          · exact ih _ _ s hs
        · simp at hs
theorem parseL_valid (l : List UInt8) : allB (parseL l).1 = true := by
  have h := parseL_len l
  unfold allB
  rw [decide_eq_true h, Bool.true_and, List.all_eq_true]
  intro s hs
  unfold parseL at hs
  split at hs
  · exact goP_form _ _ _ s hs
  · simp at hs
theorem parseL_none {l : List UInt8} (h : (parseL l).2.1 ≠ 0) : (parseL l).1 = [] := by
  unfold parseL at h ⊢
  split
  · rename_i h0
    rw [if_pos h0] at h
    exact goP_err _ _ _ _ h
  · rfl
end Go.Proofs.YtbkheiilcfhfpaaDoor
