/- calendar: the reference's Parse -/
import Derived.Test.YtlikkplipofghaaDoorCalRef
namespace Go.Proofs.YtlikkplipofghaaDoor
open Go.RowKit

/-- one byte, as the reference reads it: night, slot, dots -/
def rpStep (st : Int × Int × Int) (c : UInt8) : Option (Int × Int × Int) :=
  if c = 46 then some (st.1, st.2.1, st.2.2 + 1)
  else if c.toNat < 48 ∨ 57 < c.toNat then none
  else if st.2.2 = 0 then some (10 * st.1 + ((c.toNat : Int) - 48), st.2.1, st.2.2)
  else some (st.1, 10 * st.2.1 + ((c.toNat : Int) - 48), st.2.2)
def rpFold : List UInt8 → Int × Int × Int → Option (Int × Int × Int)
  | [], st => some st
  | c :: l, st => match rpStep st c with
    | some st' => rpFold l st'
    | none => none
theorem rpFold_append (a b : List UInt8) (st : Int × Int × Int) : rpFold (a ++ b) st = (rpFold a st).bind (rpFold b) := by
  induction a generalizing st with
  | nil => rfl
  | cons c a ih =>
    simp only [List.cons_append, rpFold]
    cases rpStep st c with
    | none => rfl
    | some st' => exact ih st'
theorem rp_night : ∀ n : Nat, n < 400 → rpFold (Lib.itoa (n : Int)) (0, 0, 0) = some ((n : Int), 0, 0) := by decide +kernel
theorem rp_slot0 : ∀ s : Nat, s < 96 → rpFold (Lib.itoa (s : Int)) (0, 0, 1) = some (0, (s : Int), 1) := by decide +kernel
theorem rp_shift (l : List UInt8) (n s s' : Int) (hl : 46 ∉ l) (h : rpFold l (0, s, 1) = some (0, s', 1)) : rpFold l (n, s, 1) = some (n, s', 1) := by
  induction l generalizing s with
  | nil => simp only [rpFold, Option.some.injEq, Prod.mk.injEq, and_true, true_and] at h ⊢; exact h
  | cons c l ih =>
    simp only [List.mem_cons, not_or] at hl
    have hc : ¬ c = 46 := fun e => hl.1 e.symm
    simp only [rpFold, rpStep, if_neg hc] at h ⊢
    by_cases hb : c.toNat < 48 ∨ 57 < c.toNat
    · rw [if_pos hb] at h; simp at h
    · rw [if_neg hb, if_neg (by decide)] at h ⊢
      exact ih _ hl.2 h
theorem rp_text (m : Int) (h0 : 0 ≤ m) (h1 : m ≤ 38399) : rpFold (textF m) (0, 0, 0) = some (m / 96, m % 96, 1) := by
  unfold textF
  rw [rpFold_append]
  have hn := rp_night (m / 96).toNat (by omega)
  rw [show (((m / 96).toNat : Nat) : Int) = m / 96 by omega] at hn
  rw [hn]
  have hs := rp_slot0 (m % 96).toNat (by omega)
  rw [show (((m % 96).toNat : Nat) : Int) = m % 96 by omega] at hs
  have h46 : 46 ∉ Lib.itoa (m % 96) := by
    have h3 := (num_ok (m % 96) (by omega) (by omega)).2.2
    intro hm
    obtain ⟨k, hk⟩ := List.getElem?_of_mem hm
    exact Lib.indexByte_none h3 k hk
  show rpFold (46 :: Lib.itoa (m % 96)) (m / 96, 0, 0) = _
  simp only [rpFold, rpStep, if_pos, Int.zero_add]
  exact rp_shift _ _ _ _ h46 hs
theorem itoa_short : ∀ n : Nat, n < 400 → (Lib.itoa (n : Int)).length ≤ 3 := by decide +kernel
theorem text_short (m : Int) (h0 : 0 ≤ m) (h1 : m ≤ 38399) : (textF m).length ≤ 7 := by
  have z1 := itoa_short (m / 96).toNat (by omega)
  have z2 := itoa_short (m % 96).toNat (by omega)
  rw [show (((m / 96).toNat : Nat) : Int) = m / 96 by omega] at z1
  rw [show (((m % 96).toNat : Nat) : Int) = m % 96 by omega] at z2
  unfold textF
  simp only [List.length_append, List.length_cons]
  omega
theorem rpFold_take (l : List UInt8) (k : Nat) (c : UInt8) (st : Int × Int × Int) (h : l[k]? = some c) : rpFold (l.take (k + 1)) st = (rpFold (l.take k) st).bind fun st' => rpStep st' c := by
  rw [List.take_add_one, h]
  simp only [Option.toList]
  rw [rpFold_append]
  cases rpFold (l.take k) st with
  | none => rfl
  | some st' =>
    simp only [Option.bind_some, rpFold]
    cases rpStep st' c <;> rfl
end Go.Proofs.YtlikkplipofghaaDoor
