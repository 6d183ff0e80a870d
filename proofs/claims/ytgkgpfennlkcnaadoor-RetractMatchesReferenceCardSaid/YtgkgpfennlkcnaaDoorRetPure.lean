/- retract: supported entries and chains of causes, in plain Lean -/
import Derived.Test.YtgkgpfennlkcnaaDoorLib
import Derived.Lib.Bytealg
namespace Go.Proofs.YtgkgpfennlkcnaaDoor

structure En where
  id : ByteArray
  cs : List ByteArray

/-- the least set of supported Ids -/
inductive Sup (L : List En) (R : List ByteArray) : ByteArray → Prop
  | root (e : En) (h : e ∈ L) (hr : e.id ∉ R) (hc : e.cs = []) : Sup L R e.id
  | eff (e : En) (h : e ∈ L) (hr : e.id ∉ R) (c : ByteArray) (hc : c ∈ e.cs) (hs : Sup L R c) : Sup L R e.id
/-- a chain of causes of an Id -/
inductive Ch (L : List En) : List ByteArray → ByteArray → Prop
  | one (e : En) (h : e ∈ L) (hc : e.cs = []) : Ch L [e.id] e.id
  | more (e : En) (h : e ∈ L) (x : List ByteArray) (c : ByteArray) (hc : c ∈ e.cs) (hx : Ch L x c) : Ch L (x ++ [e.id]) e.id

/- comparing -/
structure Good {α : Type} (c : α → α → Int) : Prop where
  zero : ∀ a b, c a b = 0 ↔ a = b
  neg : ∀ a b, c a b < 0 ↔ 0 < c b a
  trans : ∀ a b d, c a b < 0 → c b d < 0 → c a d < 0
def lexC {α : Type} (c : α → α → Int) : List α → List α → Int
  | [], [] => 0
  | [], _ :: _ => -1
  | _ :: _, [] => 1
  | a :: as, b :: bs => if c a b = 0 then lexC c as bs else c a b
theorem lexC_zero {α : Type} {c : α → α → Int} (h : Good c) : ∀ a b, lexC c a b = 0 ↔ a = b
  | [], [] => by simp [lexC]
  | [], _ :: _ => by simp [lexC]
  | _ :: _, [] => by simp [lexC]
  | a :: as, b :: bs => by
    unfold lexC
    by_cases h0 : c a b = 0
    · rw [if_pos h0, lexC_zero h as bs]
      have := (h.zero a b).1 h0
      simp [this]
    · rw [if_neg h0]
      have : a ≠ b := fun e => h0 ((h.zero a b).2 e)
      simp [h0, this]
theorem Good.flip0 {α : Type} {c : α → α → Int} (h : Good c) {a b : α} : c a b = 0 ↔ c b a = 0 := by
  rw [h.zero, h.zero]; exact ⟨Eq.symm, Eq.symm⟩
theorem lexC_neg {α : Type} {c : α → α → Int} (h : Good c) : ∀ a b, lexC c a b < 0 ↔ 0 < lexC c b a
  | [], [] => by simp [lexC]
  | [], _ :: _ => by simp [lexC]
  | _ :: _, [] => by simp [lexC]
  | a :: as, b :: bs => by
    unfold lexC
    by_cases h0 : c a b = 0
    · rw [if_pos h0, if_pos (h.flip0.1 h0)]
      exact lexC_neg h as bs
    · rw [if_neg h0, if_neg (fun x => h0 (h.flip0.2 x))]
      exact h.neg a b
theorem lexC_trans {α : Type} {c : α → α → Int} (h : Good c) : ∀ a b d, lexC c a b < 0 → lexC c b d < 0 → lexC c a d < 0
  | [], [], _ => by simp [lexC]
  | [], _ :: _, [] => by simp [lexC]
  | [], _ :: _, _ :: _ => by simp [lexC]
  | _ :: _, [], _ => by simp [lexC]
  | _ :: _, _ :: _, [] => by simp [lexC]
  | a :: as, b :: bs, d :: ds => by
    have ih := lexC_trans h as bs ds
    unfold lexC
    by_cases h1 : c a b = 0
    · have e := (h.zero a b).1 h1
      subst e
      rw [if_pos h1]
      intro k1 k2
      by_cases h2 : c a d = 0
      · rw [if_pos h2] at k2 ⊢; exact ih k1 k2
      · rw [if_neg h2] at k2 ⊢; exact k2
    · rw [if_neg h1]
      by_cases h2 : c b d = 0
      · have e := (h.zero b d).1 h2
        subst e
        rw [if_neg h1]
        exact fun k _ => k
      · rw [if_neg h2]
        intro k1 k2
        have k3 := h.trans a b d k1 k2
        rw [if_neg (by omega)]
        exact k3
theorem lexC_good {α : Type} {c : α → α → Int} (h : Good c) : Good (lexC c) := ⟨lexC_zero h, lexC_neg h, lexC_trans h⟩
theorem lexC_last {α : Type} {c : α → α → Int} (h : Good c) (i : α) : ∀ a b, a.length = b.length → lexC c (a ++ [i]) (b ++ [i]) = lexC c a b
  | [], [], _ => by simp [lexC, (h.zero i i).2 rfl]
  | [], _ :: _, hl => by simp at hl
  | _ :: _, [], hl => by simp at hl
  | a :: as, b :: bs, hl => by
    show lexC c (a :: (as ++ [i])) (b :: (bs ++ [i])) = _
    unfold lexC
    rw [lexC_last h i as bs (by simpa using hl)]
def u8C (a b : UInt8) : Int := if a < b then -1 else if b < a then 1 else 0
theorem u8C_good : Good u8C := by
  refine ⟨fun a b => ?_, fun a b => ?_, fun a b d => ?_⟩ <;> unfold u8C <;> simp only [UInt8.lt_iff_toNat_lt, ← UInt8.toNat_inj] <;> (repeat' split) <;> omega
theorem compareBytes_lex : ∀ a b, Lib.compareBytes a b = lexC u8C a b
  | [], [] => by simp [Lib.compareBytes, lexC]
  | [], _ :: _ => by simp [Lib.compareBytes, lexC]
  | _ :: _, [] => by simp [Lib.compareBytes, lexC]
  | a :: as, b :: bs => by
    unfold Lib.compareBytes lexC
    rw [compareBytes_lex as bs]
    by_cases h1 : a < b
    · simp [h1, u8C]
    · by_cases h2 : b < a
      · simp [h1, h2, u8C]
      · have : u8C a b = 0 := by simp [h1, h2, u8C]
        rw [if_neg h1, if_neg h2, if_pos this]
/-- comparing strings -/
def cmpB (a b : ByteArray) : Int := Lib.compareBytes a.data.toList b.data.toList
theorem bytes_good : Good cmpB := by
  have h := lexC_good u8C_good
  refine ⟨fun a b => ?_, fun a b => ?_, fun a b d => ?_⟩ <;> unfold cmpB <;> simp only [compareBytes_lex]
  · rw [h.zero]
    exact ⟨fun q => ByteArray.ext (Array.toList_inj.1 q), fun q => by rw [q]⟩
  · exact h.neg _ _
  · exact h.trans _ _ _
/-- comparing chains -/
def cmpCh : List ByteArray → List ByteArray → Int := lexC cmpB
theorem ch_good : Good cmpCh := lexC_good bytes_good
theorem Good.tr {α : Type} {c : α → α → Int} (h : Good c) {a b d : α} (h1 : ¬ c b a < 0) (h2 : ¬ c d b < 0) : ¬ c d a < 0 := by
  intro k
  by_cases h0 : c b a = 0
  · have := (h.zero b a).1 h0; subst this; exact h2 k
  · by_cases h3 : c d b = 0
    · have := (h.zero d b).1 h3; subst this; exact h1 k
    · have := h.neg a b
      have := h.neg b d
      have k1 : c a b < 0 := by have := h.neg a b; omega
      have k2 : c b d < 0 := by have := h.neg b d; omega
      have := h.trans a b d k1 k2
      have := h.neg a d
      omega

/-- the least one of the shortest chains -/
def Least (L : List En) (x : List ByteArray) (s : ByteArray) : Prop :=
  Ch L x s ∧ ∀ y, Ch L y s → x.length < y.length ∨ (x.length = y.length ∧ ¬ cmpCh y x < 0)
theorem Least.uniq {L : List En} {x y : List ByteArray} {s : ByteArray} (h : Least L x s) (k : Least L y s) : x = y := by
  have h1 := h.2 y k.1
  have h2 := k.2 x h.1
  have hl : x.length = y.length := by omega
  have h3 : ¬ cmpCh y x < 0 := by rcases h1 with h | h; omega; exact h.2
  have h4 : ¬ cmpCh x y < 0 := by rcases h2 with h | h; omega; exact h.2
  have h5 := ch_good.neg x y
  have h6 := ch_good.neg y x
  have h7 : ¬ 0 < cmpCh x y := fun q => h3 (h6.2 q)
  exact (ch_good.zero x y).1 (by omega)
def Dist (L : List En) : Prop := ∀ (i j : Nat) (e d : En), L[i]? = some e → L[j]? = some d → e.id = d.id → i = j
theorem Dist.eq {L : List En} (h : Dist L) {e d : En} (he : e ∈ L) (hd : d ∈ L) (hi : e.id = d.id) : e = d := by
  obtain ⟨i, hi'⟩ := List.mem_iff_getElem?.1 he
  obtain ⟨j, hj⟩ := List.mem_iff_getElem?.1 hd
  have := h i j e d hi' hj hi
  subst this
  rw [hi'] at hj; injection hj
theorem Ch.pos {L : List En} {x : List ByteArray} {s : ByteArray} (h : Ch L x s) : 0 < x.length := by
  cases h <;> simp
theorem Ch.mem {L : List En} {x : List ByteArray} {s : ByteArray} (h : Ch L x s) : ∃ e ∈ L, e.id = s := by
  cases h with
  | one e h _ => exact ⟨e, h, rfl⟩
  | more e h _ _ _ _ => exact ⟨e, h, rfl⟩
/-- the last link of a chain -/
theorem Ch.last {L : List En} (hd : Dist L) {x : List ByteArray} {e : En} (he : e ∈ L) (h : Ch L x e.id) : (e.cs = [] ∧ x = [e.id]) ∨ ∃ y c, c ∈ e.cs ∧ Ch L y c ∧ x = y ++ [e.id] := by
  generalize hs : e.id = s at h
  cases h with
  | one d h hc =>
    have := hd.eq he h hs
    subst this
    exact .inl ⟨hc, rfl⟩
  | more d h x c hc hx =>
    have := hd.eq he h hs
    subst this
    exact .inr ⟨x, c, hc, hx, rfl⟩

/-- after r rounds: chains of up to r + 1 Ids are known -/
def Known (L : List En) (r : Nat) (f : Nat → List ByteArray) : Prop :=
  ∀ (i : Nat) (e : En), L[i]? = some e → (f i = [] ∧ ∀ y, Ch L y e.id → r + 1 < y.length) ∨ (Least L (f i) e.id ∧ (f i).length ≤ r + 1)
def Round (L : List En) (f f' : Nat → List ByteArray) : Prop :=
  ∀ (i : Nat) (e : En), L[i]? = some e → (f i ≠ [] ∧ f' i = f i) ∨ (f i = [] ∧ ((f' i = [] ∧ ∀ (j : Nat) (d : En), L[j]? = some d → d.id ∈ e.cs → f j = []) ∨
    (∃ (j : Nat) (d : En), L[j]? = some d ∧ d.id ∈ e.cs ∧ f j ≠ [] ∧ f' i = f j ++ [e.id] ∧ ∀ (j' : Nat) (d' : En), L[j']? = some d' → d'.id ∈ e.cs → f j' ≠ [] → ¬ cmpCh (f j' ++ [e.id]) (f' i) < 0)))
theorem Known.zero {L : List En} (hd : Dist L) {f : Nat → List ByteArray} (h : ∀ (i : Nat) (e : En), L[i]? = some e → f i = if e.cs = [] then [e.id] else []) : Known L 0 f := by
  intro i e he
  have hm := List.mem_of_getElem? he
  rw [h i e he]
  by_cases hc : e.cs = []
  · rw [if_pos hc]
    refine .inr ⟨⟨.one e hm hc, fun y hy => ?_⟩, by simp⟩
    rcases hy.last hd hm with ⟨_, rfl⟩ | ⟨z, c, hc', _, _⟩
    · refine .inr ⟨rfl, ?_⟩
      have := (ch_good.zero [e.id] [e.id]).2 rfl
      omega
    · rw [hc] at hc'; cases hc'
  · rw [if_neg hc]
    refine .inl ⟨rfl, fun y hy => ?_⟩
    rcases hy.last hd hm with ⟨h, _⟩ | ⟨z, c, _, hz, rfl⟩
    · exact absurd h hc
    · have := hz.pos
      simp; omega
theorem Known.next {L : List En} (hd : Dist L) {r : Nat} {f f' : Nat → List ByteArray} (h : Known L r f) (k : Round L f f') : Known L (r + 1) f' := by
  intro i e he
  have hm := List.mem_of_getElem? he
  rcases k i e he with ⟨h0, h1⟩ | ⟨h0, h1⟩
  · rcases h i e he with ⟨h2, _⟩ | ⟨h2, h3⟩
    · exact absurd h2 h0
    · rw [h1]; exact .inr ⟨h2, by omega⟩
  · have hlong : ∀ y, Ch L y e.id → r + 1 < y.length := by
      rcases h i e he with ⟨_, h2⟩ | ⟨h2, _⟩
      · exact h2
      · have := h2.1.pos; rw [h0] at this; simp at this
    -- any chain of r + 2 Ids comes from a known one
    have hfrom : ∀ y, Ch L y e.id → y.length = r + 2 → ∃ (x : List ByteArray) (j : Nat) (d : En), L[j]? = some d ∧ d.id ∈ e.cs ∧ Ch L x d.id ∧ y = x ++ [e.id] ∧ f j ≠ [] ∧ (f j).length = r + 1 ∧ ¬ cmpCh x (f j) < 0 := by
      intro y hy hl
      rcases hy.last hd hm with ⟨_, rfl⟩ | ⟨x, c, hc, hx, rfl⟩
      · simp at hl
      · obtain ⟨d, hdm, rfl⟩ := hx.mem
        obtain ⟨j, hj⟩ := List.mem_iff_getElem?.1 hdm
        have hxl : x.length = r + 1 := by simp at hl; omega
        rcases h j d hj with ⟨_, h2⟩ | ⟨h2, h3⟩
        · have := h2 x hx; omega
        · have hp := h2.1.pos
          have hl2 := hlong _ (.more e hm (f j) d.id hc h2.1)
          simp at hl2
          have hlf : (f j).length = r + 1 := by omega
          refine ⟨x, j, d, hj, hc, hx, rfl, by intro q; rw [q] at hp; simp at hp, hlf, ?_⟩
          rcases h2.2 x hx with h | h
          · omega
          · exact h.2
    rcases h1 with ⟨h1, h2⟩ | ⟨j, d, hj, hc, hf, h1, h2⟩
    · refine .inl ⟨h1, fun y hy => ?_⟩
      have := hlong y hy
      by_cases hl : y.length = r + 2
      · obtain ⟨x, j, d, hj, hc, _, _, hf, _⟩ := hfrom y hy hl
        exact absurd (h2 j d hj hc) hf
      · omega
    · refine .inr ?_
      have hjk : Least L (f j) d.id ∧ (f j).length ≤ r + 1 := by
        rcases h j d hj with ⟨q, _⟩ | q
        · exact absurd q hf
        · exact q
      have hch : Ch L (f' i) e.id := by rw [h1]; exact .more e hm (f j) d.id hc hjk.1.1
      have hlen : (f' i).length = r + 2 := by
        have := hlong _ hch
        rw [h1] at this ⊢
        simp at this ⊢
        omega
      refine ⟨⟨hch, fun y hy => ?_⟩, by omega⟩
      have := hlong y hy
      by_cases hl : y.length = r + 2
      · refine .inr ⟨by omega, ?_⟩
        obtain ⟨x, j', d', hj', hc', hx, rfl, hf', hlf, hle⟩ := hfrom y hy hl
        have a := h2 j' d' hj' hc' hf'
        have b : ¬ cmpCh (x ++ [e.id]) (f j' ++ [e.id]) < 0 := by
          have := lexC_last bytes_good e.id x (f j') (by simp at hl; omega)
          unfold cmpCh
          rw [this]
          exact hle
        exact ch_good.tr a b
      · exact .inl (by omega)
/-- when a round changes nothing, what is not known has no chain -/
theorem Known.still {L : List En} (hd : Dist L) {r : Nat} {f : Nat → List ByteArray} (h : Known L r f) (k : Round L f f) : ∀ n, Known L (r + n) f
  | 0 => h
  | n + 1 => (Known.still hd h k n).next hd k
theorem Known.none {L : List En} (hd : Dist L) {r : Nat} {f : Nat → List ByteArray} (h : Known L r f) (k : Round L f f) {i : Nat} {e : En} (he : L[i]? = some e) (h0 : f i = []) (y : List ByteArray) : ¬ Ch L y e.id := by
  intro hy
  rcases h.still hd k y.length i e he with ⟨_, h2⟩ | ⟨h2, _⟩
  · have := h2 y hy; omega
  · have := h2.1.pos; rw [h0] at this; simp at this
theorem Known.some {L : List En} {r : Nat} {f : Nat → List ByteArray} (h : Known L r f) {i : Nat} {e : En} (he : L[i]? = some e) (h0 : f i ≠ []) : Least L (f i) e.id := by
  rcases h i e he with ⟨h2, _⟩ | ⟨h2, _⟩
  · exact absurd h2 h0
  · exact h2
end Go.Proofs.YtgkgpfennlkcnaaDoor
