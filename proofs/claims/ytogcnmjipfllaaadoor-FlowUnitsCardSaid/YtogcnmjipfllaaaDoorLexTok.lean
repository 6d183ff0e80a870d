/- lexer.Lex as callers take it: the tokens can be read -/
import Derived.Test.YtogcnmjipfllaaaDoorLexLex
namespace Go.Proofs.YtogcnmjipfllaaaDoor
open Go.RowKit

theorem MineN.slv {sz B : Nat} {w0 w : World} {E : TypeId} {v : Value} {n : Nat} {xs : List Value} (h : MineN sz B w0 w E v n xs) (hl : xs.length ≤ maxLen) : ∃ ao cap, v = .slice ao n cap ∧ SlV w ao xs ∧ (∀ b off, ao = some ⟨b, off, none⟩ → B ≤ b) ∧ n ≤ cap ∧ cap ≤ maxLen := by
  obtain ⟨h0, h2⟩ := h.own
  rcases h2 with ⟨e, h3⟩ | ⟨g, cap, cur, hv, hg, hh, h4, h5, h6, h7⟩
  · have hx : xs = [] := List.eq_nil_of_length_eq_zero (by rw [h0, h3]; simp)
    subst hx
    exact ⟨none, 0, by rw [e, h3], ⟨by simp, by simp⟩, (fun _ _ h => by cases h), by omega, by unfold maxLen; omega⟩
  · refine ⟨_, cap, hv, ⟨hl, fun i x hi => ⟨g, 0, rfl, (Array.getElem?_eq_some_iff.1 hh).1, ?_⟩⟩, (fun _ _ h => by cases h; exact hg), h4, h5⟩
    have hb : Blk w g E cur.toList := by unfold Blk; simpa using hh
    rw [hb.cell, Nat.zero_add]
    rw [← h7] at hi
    rw [List.getElem?_take] at hi
    split at hi
    · exact hi
    · cases hi
theorem toksCells_len (ts : List Tok) : (toksCells ts).length = 4 * ts.length := by
  induction ts with
  | nil => rfl
  | cons t ts ih => simp only [toksCells, List.flatMap_cons, List.length_append, List.length_cons] at *; rw [ih]; simp [tokCells]; omega
theorem toksCells_get (ts : List Tok) (i : Nat) (t : Tok) (h : ts[i]? = some t) (j : Nat) (hj : j < 4) : (toksCells ts)[4 * i + j]? = (tokCells t)[j]? := by
  induction ts generalizing i with
  | nil => simp at h
  | cons a ts ih =>
    cases i with
    | zero =>
      simp at h; subst h
      simp only [toksCells, List.flatMap_cons, Nat.mul_zero, Nat.zero_add]
      rw [List.getElem?_append_left (by simp [tokCells]; omega)]
    | succ i =>
      have := ih i (by simpa using h)
      simp only [toksCells, List.flatMap_cons] at *
      rw [List.getElem?_append_right (by simp [tokCells]; omega)]
      rw [← this]
      congr 1
      simp [tokCells]; omega
theorem lexF_len (f k p : Nat) (l : List UInt8) (hk : k ≤ 5000) : (lexF f k p l).1.length + k ≤ 5000 := by
  induction f generalizing k p l with
  | zero => simpa [lexF] using hk
  | succ f ih =>
    rw [lexF]
    split
    · simpa using hk
    · split
      · simpa using hk
      · split
        · simpa using hk
        · rename_i kd t n w h1 h2
          have := ih (k + 1) (p + gapL false l + w) (l.drop (gapL false l + w)) (by omega)
          unfold joinR
          split
          · simp; omega
          · simpa using hk
theorem lexL_len (l : List UInt8) : (lexL l).1.length ≤ 5000 := by
  unfold lexL
  split
  · simp
  · have := lexF_len (l.length + 1) 0 0 l (by omega); simpa using this
/-- the tokens, to be read -/
def Toks (w : World) (ao : Option Addr) (ts : List Tok) : Prop := SlV w ao (toksCells ts)
theorem lex_any2 (s : ByteArray) (w : World) (hs : s.size ≤ 1000000) : Calls Tryd.prog 24 #[.string s] w fun e w' =>
    ∃ ao cap, e = .returned (.tuple #[.slice ao (lexL s.data.toList).1.length cap, .int .i64 (lexL s.data.toList).2.1, .int .i64 (lexL s.data.toList).2.2]) ∧ Toks w' ao (lexL s.data.toList).1 ∧ Below w.heap.size w w' := by
  refine (lex_any s w hs).mono ?_
  rintro e w' ⟨v, rfl, hm⟩
  have hl := lexL_len s.data.toList
  obtain ⟨ao, cap, rfl, hsl, _⟩ := hm.slv (by rw [toksCells_len]; unfold maxLen; omega)
  exact ⟨ao, cap, rfl, hsl, hm.below⟩
theorem Toks.get {w : World} {ao : Option Addr} {ts : List Tok} (h : Toks w ao ts) {i : Nat} {t : Tok} (ht : ts[i]? = some t) :
    ∃ b off, ao = some ⟨b, off, none⟩ ∧ b < w.heap.size ∧ w.cell? ⟨b, off + (4 * i + 0), none⟩ = some (.int .i64 t.k) ∧ w.cell? ⟨b, off + (4 * i + 1), none⟩ = some (.string ⟨t.t.toArray⟩) ∧
      w.cell? ⟨b, off + (4 * i + 2), none⟩ = some (.int .i64 t.n) ∧ w.cell? ⟨b, off + (4 * i + 3), none⟩ = some (.int .i64 t.at_) := by
  have h0 := toksCells_get ts i t ht 0 (by omega)
  have h1 := toksCells_get ts i t ht 1 (by omega)
  have h2 := toksCells_get ts i t ht 2 (by omega)
  have h3 := toksCells_get ts i t ht 3 (by omega)
  obtain ⟨b, off, e, hb, c0⟩ := h.cell _ _ h0
  obtain ⟨b1, off1, e1, _, c1⟩ := h.cell _ _ h1
  obtain ⟨b2, off2, e2, _, c2⟩ := h.cell _ _ h2
  obtain ⟨b3, off3, e3, _, c3⟩ := h.cell _ _ h3
  rw [e] at e1 e2 e3
  cases e1; cases e2; cases e3
  exact ⟨b, off, e, hb, c0, c1, c2, c3⟩
end Go.Proofs.YtogcnmjipfllaaaDoor
