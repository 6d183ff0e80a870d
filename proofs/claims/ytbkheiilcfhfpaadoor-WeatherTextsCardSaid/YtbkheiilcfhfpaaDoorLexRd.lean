/- The lexer, plain: texts read token by token. -/
import Derived.Test.YtbkheiilcfhfpaaDoorLexR6
import Derived.Test.YtbkheiilcfhfpaaDoorLexR7
import Derived.Lib.ItoaLen
namespace Go.Proofs.YtbkheiilcfhfpaaDoor

/-- a token, its place apart -/
abbrev St := Int × List UInt8 × Int
/-- the text reads as these tokens, wherever it begins -/
def Rd (l : List UInt8) (st : List St) : Prop := ∀ p, (lexR p l).2.1 = 0 ∧ (lexR p l).1.map stR = st
theorem Rd.nil : Rd [] [] := fun p => by
  have : lexR p [] = ([], 0, 0) := lexR_end (by simp)
  rw [this]; exact ⟨rfl, rfl⟩
theorem Rd.gap {b : UInt8} {l : List UInt8} {st : List St} (h : Rd l st) (hb : cls b = 1) : Rd (b :: l) st := fun p => by
  rw [lexR_gap1 hb]; exact h _
theorem Rd.comment {G l : List UInt8} {st : List St} (h : Rd l st) (hG : gapL false G = G.length) : Rd (G ++ 10 :: l) st := fun p => by
  rw [lexR_gaps_front hG]; exact h _
theorem Rd.tok {k n : Int} {t l : List UInt8} {st : List St} (h : Rd l st) (hg : ∀ p, GoodT ⟨k, t, n, p⟩) (hs : Stop k t l) : Rd (wrt k t ++ l) ((k, t, n) :: st) := fun p => by
  have := lexR_front (hg p) p l hs
  dsimp only at this
  rw [this]
  obtain ⟨h1, h2⟩ := h (p + (wrt k t).length)
  refine ⟨by rw [joinR_ok.1]; exact h1, ?_⟩
  rw [joinR_ok.2.2 h1, List.map_append, h2]; rfl
theorem Rd.name {t l : List UInt8} {st : List St} (h : Rd l st) (ht : nameB t = true) (hs : Stop 1 t l) : Rd (t ++ l) ((1, t, 0) :: st) := h.tok (good_name ht) hs
theorem Rd.sym {b : UInt8} {l : List UInt8} {st : List St} (h : Rd l st) (hb : cls b = 9) : Rd (b :: l) ((4, [b], 0) :: st) := by
  have hs : Stop 4 [b] l := ⟨fun e => by omega, fun _ _ h9 => by
    have : atC [b] 0 = cls b := atC_some rfl
    omega⟩
  exact h.tok (good_sym (.inr hb)) hs

/-! ### decimal numerals -/
theorem dec_spec (u : Nat) : 0 < (Lib.decDigits u).length ∧ (∀ b ∈ Lib.decDigits u, cls b = 4) ∧ numV (Lib.decDigits u) = u := by
  induction u using Nat.strongRecOn with
  | ind u ih =>
    rw [Lib.decDigits]
    by_cases h : u < 10
    · rw [dif_pos h]
      obtain ⟨d1, d2⟩ := dig_nat h
      refine ⟨by simp, by simpa using d2, ?_⟩
      show 0 * 10 + ((UInt8.ofNat (48 + u)).toNat - 48) = u
      rw [d1]; omega
    · rw [dif_neg h]
      obtain ⟨i1, i2, i3⟩ := ih (u / 10) (by omega)
      obtain ⟨d1, d2⟩ := dig_nat (d := u % 10) (by omega)
      refine ⟨by simp, ?_, ?_⟩
      · intro b hb
        rw [List.mem_append, List.mem_singleton] at hb
        rcases hb with hb | rfl
        · exact i2 b hb
        · exact d2
      · rw [numV_snoc, i3, d1]; omega
theorem itoa_nat (u : Nat) : Lib.itoa (u : Int) = Lib.decDigits u := Lib.itoa_nonneg u
theorem dec_len {u : Nat} (h : u < 10000000000000) : (Lib.decDigits u).length ≤ 13 := by
  rw [Lib.decDigits_length]
  have hp := Lib.nDigits_pos u
  rcases Nat.lt_or_ge 13 (Lib.nDigits u) with h1 | h1
  · exfalso
    by_cases h0 : u = 0
    · subst h0; rw [Lib.nDigits_small (by omega)] at h1; omega
    · have : ∀ k, 10 ^ k ≤ u → u < 10 ^ (k + 1) → Lib.nDigits u = k + 1 := fun k => Lib.nDigits_unique k u
      have hx : ∃ k, k ≤ 12 ∧ 10 ^ k ≤ u ∧ u < 10 ^ (k + 1) := by
        rcases Nat.lt_or_ge u 10 with h | h0; exact ⟨0, by omega, by omega, by omega⟩
        rcases Nat.lt_or_ge u 100 with h | h1; exact ⟨1, by omega, by omega, by omega⟩
        rcases Nat.lt_or_ge u 1000 with h | h2; exact ⟨2, by omega, by omega, by omega⟩
        rcases Nat.lt_or_ge u 10000 with h | h3; exact ⟨3, by omega, by omega, by omega⟩
        rcases Nat.lt_or_ge u 100000 with h | h4; exact ⟨4, by omega, by omega, by omega⟩
        rcases Nat.lt_or_ge u 1000000 with h | h5; exact ⟨5, by omega, by omega, by omega⟩
        rcases Nat.lt_or_ge u 10000000 with h | h6; exact ⟨6, by omega, by omega, by omega⟩
        rcases Nat.lt_or_ge u 100000000 with h | h7; exact ⟨7, by omega, by omega, by omega⟩
        rcases Nat.lt_or_ge u 1000000000 with h | h8; exact ⟨8, by omega, by omega, by omega⟩
        rcases Nat.lt_or_ge u 10000000000 with h | h9; exact ⟨9, by omega, by omega, by omega⟩
        rcases Nat.lt_or_ge u 100000000000 with h | h10; exact ⟨10, by omega, by omega, by omega⟩
        rcases Nat.lt_or_ge u 1000000000000 with h | h11; exact ⟨11, by omega, by omega, by omega⟩
        exact ⟨12, by omega, by omega, by omega⟩
      obtain ⟨k, hk, a, b⟩ := hx
      have := this k a b
      omega
  · exact h1
theorem Rd.num {n : Int} {l : List UInt8} {st : List St} (h : Rd l st) (h0 : 0 ≤ n) (h1 : n < 10000000000000) (hs : ∀ t, Stop 2 t l) : Rd (Lib.itoa n ++ l) ((2, Lib.itoa n, n) :: st) := by
  obtain ⟨u, rfl⟩ : ∃ u : Nat, n = u := ⟨n.toNat, by omega⟩
  rw [itoa_nat]
  obtain ⟨d1, d2, d3⟩ := dec_spec u
  have := good_num d1 (dec_len (u := u) (by omega)) d2
  rw [d3] at this
  exact h.tok this (hs _)
theorem stop_sp {k : Int} {t l : List UInt8} {b : UInt8} (hb : cls b = 1) : Stop k t (b :: l) := stop_gap hb l
theorem stop_sym {k : Int} {t l : List UInt8} {b : UInt8} (hb : cls b = 9) (hk : k = 1 ∨ k = 2) : Stop k t (b :: l) := by
  have e : atC (b :: l) 0 = 9 := by rw [atC_some (b := b) rfl, hb]
  exact ⟨fun _ => by omega, fun h => by omega⟩
/-- what the lexer says of a text that reads so -/
theorem Rd.lex {l : List UInt8} {st : List St} (h : Rd l st) (hl : l.length ≤ 5000) : (lexL l).2.1 = 0 ∧ (lexL l).2.2 = 0 ∧ (lexL l).1.map stR = st := by
  rw [lexL_lexR hl]
  exact ⟨(h 0).1, lexR_zero _ _ (h 0).1, (h 0).2⟩
/-- the same tokens, with wide gaps -/
def wideT (st : List St) : List UInt8 := st.flatMap fun c => 9 :: (c.2.1 ++ [32, 35, 32, 59, 10])
def wideL (st : List St) : List UInt8 := [35, 10] ++ wideT st
theorem rd_wide : ∀ (st : List St), (∀ c ∈ st, c.1 ≠ 3 ∧ ∀ p, GoodT ⟨c.1, c.2.1, c.2.2, p⟩) → Rd (wideT st) st
  | [], _ => Rd.nil
  | (k, t, n) :: st, h => by
    obtain ⟨hk, hg⟩ := h (k, t, n) (by simp)
    have ih := rd_wide st (fun c hc => h c (by simp [hc]))
    have e : wideT ((k, t, n) :: st) = 9 :: (wrt k t ++ (32 :: ([35, 32, 59] ++ 10 :: wideT st))) := by
      unfold wideT wrt
      dsimp only at hk
      rw [if_neg hk]
      simp
    rw [e]
    exact (((ih.comment (by decide)).gap (by decide)).tok hg (stop_sp (by decide))).gap (by decide)
theorem rd_wideL {st : List St} (h : ∀ c ∈ st, c.1 ≠ 3 ∧ ∀ p, GoodT ⟨c.1, c.2.1, c.2.2, p⟩) : Rd (wideL st) st := by
  have := (rd_wide st h).comment (G := [35]) (by decide)
  exact this
theorem good_stR {p : Nat} {l : List UInt8} {st : List St} (h : (lexR p l).1.map stR = st) : ∀ c ∈ st, ∀ p, GoodT ⟨c.1, c.2.1, c.2.2, p⟩ := by
  intro c hc q
  rw [← h] at hc
  obtain ⟨t, ht, rfl⟩ := List.mem_map.1 hc
  have := ((lexR_mem l p).1 t ht).2
  exact ⟨this.kind, this.len, this.pos, this.head, this.tok⟩
end Go.Proofs.YtbkheiilcfhfpaaDoor
