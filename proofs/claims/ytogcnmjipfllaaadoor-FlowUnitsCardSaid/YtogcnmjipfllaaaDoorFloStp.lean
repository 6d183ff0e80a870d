/- flow: the parser: step, at a word -/
import Derived.Test.YtogcnmjipfllaaaDoorFloOpd2
namespace Go.Proofs.YtogcnmjipfllaaaDoor
open Go.RowKit

theorem PR.bind_ok {α β : Type} (a : α) (r : List Tok) (f : α → List Tok → PR β) : (PR.ok a r).bind f = f a r := rfl
theorem PR.bind_bad {α β : Type} (e n : Int) (f : α → List Tok → PR β) : (PR.bad e n : PR α).bind f = .bad e n := rfl
/-- the operands so far -/
def OpsSt (en : Nat) (N : List ByteArray) (S : List Stp) (t : Bool) (ts : List Tok) : Nat → Int → Int → List Tok → Prop
  | 0, a, b, r => a = 0 ∧ b = 0 ∧ r = ts
  | 1, a, b, r => b = 0 ∧ opdF en N S t ts = .ok a r
  | _, a, b, r => ∃ r1, opdF en N S t ts = .ok a r1 ∧ opdF en N S t r1 = .ok b r
theorem stepF_word {en : Nat} {N : List ByteArray} {S : List Stp} {ts : List Tok} (h : wrdOp ts ≠ 0) : stepF en N S ts =
    (if 1 ≤ (opr (wrdOp ts)).k then opdF en N S (opr (wrdOp ts)).t ts.tail else .ok 0 ts.tail).bind fun a r =>
    (if 2 ≤ (opr (wrdOp ts)).k then opdF en N S (opr (wrdOp ts)).t r else .ok 0 r).bind fun b r2 =>
    (if 0 < (opr (wrdOp ts)).x then numF en 0 (opr (wrdOp ts)).x r2 else .ok 0 r2).bind fun n r3 => .ok ⟨wrdOp ts, a, b, n⟩ r3 := by
  unfold stepF
  exact if_neg h
theorem stepF_bad {en : Nat} {N : List ByteArray} {S : List Stp} {ts : List Tok} (h : wrdOp ts ≠ 0) {K i : Nat} (hK : (opr (wrdOp ts)).k = K) (hK2 : K ≤ 2) (hi : i < K) {a b : Int} {r : List Tok} (ho : OpsSt en N S (opr (wrdOp ts)).t ts.tail i a b r) {x n : Int} (hb : opdF en N S (opr (wrdOp ts)).t r = .bad x n) : stepF en N S ts = .bad x n := by
  rw [stepF_word h, hK]
  match i, ho with
  | 0, ho =>
    obtain ⟨rfl, rfl, rfl⟩ := ho
    rw [if_pos (by omega), hb]
    rfl
  | 1, ho =>
    obtain ⟨rfl, h1⟩ := ho
    rw [if_pos (by omega), h1]
    rw [PR.bind_ok]
    rw [if_pos (by omega), hb]
    rfl
  | i + 2, _ => omega
theorem stepF_ok {en : Nat} {N : List ByteArray} {S : List Stp} {ts : List Tok} (h : wrdOp ts ≠ 0) {K : Nat} (hK : (opr (wrdOp ts)).k = K) (hK2 : K ≤ 2) {a b : Int} {r : List Tok} (ho : OpsSt en N S (opr (wrdOp ts)).t ts.tail K a b r) :
    stepF en N S ts = (if 0 < (opr (wrdOp ts)).x then numF en 0 (opr (wrdOp ts)).x r else .ok 0 r).bind fun n r3 => .ok ⟨wrdOp ts, a, b, n⟩ r3 := by
  rw [stepF_word h, hK]
  match K, ho with
  | 0, ho =>
    obtain ⟨rfl, rfl, rfl⟩ := ho
    rw [if_neg (by omega)]
    rw [PR.bind_ok]
    rw [if_neg (by omega)]
    rfl
  | 1, ho =>
    obtain ⟨rfl, h1⟩ := ho
    rw [if_pos (by omega), h1]
    rw [PR.bind_ok]
    rw [if_neg (by omega)]
    rfl
  | 2, ho =>
    obtain ⟨r1, h1, h2⟩ := ho
    rw [if_pos (by omega), h1]
    rw [PR.bind_ok]
    rw [if_pos (by omega), h2]
    rfl
  | K + 3, _ => omega
theorem opdF_len {en : Nat} {N : List ByteArray} {S : List Stp} {m : Bool} {ts : List Tok} {i : Int} {r : List Tok} (h : opdF en N S m ts = .ok i r) : r.length < ts.length := by
  obtain ⟨t, rfl, _⟩ := opdF_ok h
  simp
theorem numF_len {en : Nat} {lo hi : Int} {ts : List Tok} {i : Int} {r : List Tok} (h : numF en lo hi ts = .ok i r) : r.length < ts.length := by
  obtain ⟨t, rfl, _⟩ := numF_ok h
  simp
theorem mustF_len {en : Nat} {k : Int} {tx : List UInt8} {ts : List Tok} {t : Tok} {r : List Tok} (h : mustF en k tx ts = .ok t r) : r.length < ts.length := by
  obtain ⟨rfl, _⟩ := mustF_ok h
  simp
theorem OpsSt.snoc {en : Nat} {N : List ByteArray} {S : List Stp} {t : Bool} {ts : List Tok} {i : Nat} {a b : Int} {r : List Tok} (h : OpsSt en N S t ts i a b r) (hi : i < 2) {c : Int} {r' : List Tok} (ho : opdF en N S t r = .ok c r') : OpsSt en N S t ts (i + 1) (if i = 0 then c else a) (if i = 0 then b else c) r' := by
  match i, h with
  | 0, h => obtain ⟨rfl, rfl, rfl⟩ := h; exact ⟨rfl, ho⟩
  | 1, h => obtain ⟨rfl, h1⟩ := h; exact ⟨r, h1, ho⟩
  | i + 2, _ => omega
theorem blk_n (u : World) (n : Nat) (c : Array Value) (T : TypeId) (h : u.heap.size = n) : Blk (u.alloc (.cells c T)) n T c.toList := by subst h; exact Blk.new u c T
theorem opr_bounds {n : Nat} (h1 : 1 ≤ n) (h2 : n ≤ 10) : ∃ K X : Nat, (opr n).k = K ∧ K ≤ 2 ∧ (opr n).x = X ∧ X ≤ 1000000 := by
  have : n = 1 ∨ n = 2 ∨ n = 3 ∨ n = 4 ∨ n = 5 ∨ n = 6 ∨ n = 7 ∨ n = 8 ∨ n = 9 ∨ n = 10 := by omega
  rcases this with rfl | rfl | rfl | rfl | rfl | rfl | rfl | rfl | rfl | rfl
  · exact ⟨0, 3, rfl, by omega, rfl, by omega⟩
  · exact ⟨2, 0, rfl, by omega, rfl, by omega⟩
  · exact ⟨2, 0, rfl, by omega, rfl, by omega⟩
  · exact ⟨2, 0, rfl, by omega, rfl, by omega⟩
  · exact ⟨1, 1000000, rfl, by omega, rfl, by omega⟩
  · exact ⟨2, 0, rfl, by omega, rfl, by omega⟩
  · exact ⟨1, 1000000, rfl, by omega, rfl, by omega⟩
  · exact ⟨2, 0, rfl, by omega, rfl, by omega⟩
  · exact ⟨2, 0, rfl, by omega, rfl, by omega⟩
  · exact ⟨1, 0, rfl, by omega, rfl, by omega⟩
end Go.Proofs.YtogcnmjipfllaaaDoor
