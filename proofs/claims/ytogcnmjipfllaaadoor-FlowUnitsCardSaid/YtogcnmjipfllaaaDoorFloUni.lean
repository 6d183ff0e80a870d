/- flow: what Units says, plain -/
import Derived.Test.YtogcnmjipfllaaaDoorFloVal2
import Derived.Test.YtogcnmjipfllaaaDoorUnitMul
namespace Go.Proofs.YtogcnmjipfllaaaDoor
open Go.RowKit

def uAt (L : List U) (i : Int) : U := L.getD i.toNat u0
/-- the unit of a step, and the error -/
def unitOf (I own : List U) (s : Stp) : U × Int :=
  if s.op = 1 then (uAt I s.n, 0)
  else if s.op = 4 then (mulU (uAt own s.a) (uAt own s.b), mulE (uAt own s.a) (uAt own s.b))
  else if s.op = 5 then (uAt own s.a, 0)
  else if s.op = 2 ∨ s.op = 3 ∨ s.op = 6 then (uAt own s.a, if uAt own s.a = uAt own s.b then 0 else 15)
  else (u0, 0)
def unitsL (I : List U) : List U → List Stp → List U × Int
  | own, [] => (own, 0)
  | own, s :: S => if (unitOf I own s).2 = 0 then unitsL I (own ++ [(unitOf I own s).1]) S else ([], (unitOf I own s).2)
def unitsF (f : Flw) (I : List U) : List U × Int :=
  if fvB f = true ∧ I.length = 4 ∧ I.all (fun u => decide (mulE u u0 = 0)) = true then unitsL I [] f.steps else ([], 1)
def unitsC (L : List U) : List Value := L.flatMap uCells
theorem unitsC_len (l : List U) : (unitsC l).length = 3 * l.length := by
  induction l with
  | nil => rfl
  | cons a l ih => simp only [unitsC, List.flatMap_cons, List.length_append, List.length_cons] at ih ⊢; rw [ih]; simp [uCells]; omega
theorem unitsC_get : ∀ (l : List U) (i : Nat) (s : U), l[i]? = some s → ∀ j, j < 3 → (unitsC l)[i * 3 + j]? = (uCells s)[j]?
  | [], _, _, h, _, _ => by simp at h
  | a :: l, 0, s, h, j, hj => by
    simp at h
    subst h
    simp only [unitsC, List.flatMap_cons, Nat.zero_mul, Nat.zero_add]
    rw [List.getElem?_append_left (by simp [uCells]; omega)]
  | a :: l, i + 1, s, h, j, hj => by
    simp only [unitsC, List.flatMap_cons]
    rw [List.getElem?_append_right (by simp [uCells]; omega)]
    have e : (i + 1) * 3 + j - (uCells a).length = i * 3 + j := by simp [uCells]; omega
    rw [e]
    exact unitsC_get l i s (by simpa using h) j hj
def Uns (w : World) (ao : Option Addr) (L : List U) : Prop := SlV w ao (unitsC L)
theorem Uns.at {w : World} {ao : Option Addr} {S : List U} (h : Uns w ao S) {i : Nat} {s : U} (hs : S[i]? = some s) :
    ∃ b off, ao = some ⟨b, off, none⟩ ∧ b < w.heap.size ∧ w.cell? ⟨b, off + i * 3, none⟩ = some (.int .i64 s.a) ∧ w.cell? ⟨b, off + i * 3 + 1, none⟩ = some (.int .i64 s.b) ∧ w.cell? ⟨b, off + i * 3 + 2, none⟩ = some (.int .i64 s.c) := by
  obtain ⟨b, off, q, hb, c0⟩ := h.cell _ _ (unitsC_get S i s hs 0 (by omega))
  obtain ⟨b1, off1, q1, _, c1⟩ := h.cell _ _ (unitsC_get S i s hs 1 (by omega))
  obtain ⟨b2, off2, q2, _, c2⟩ := h.cell _ _ (unitsC_get S i s hs 2 (by omega))
  rw [q] at q1 q2
  cases q1
  cases q2
  exact ⟨b, off, q, hb, c0, c1, c2⟩
theorem uAt_some {L : List U} {i : Int} (h0 : 0 ≤ i) (h1 : i < L.length) : L[i.toNat]? = some (uAt L i) := by
  unfold uAt
  rw [List.getD_eq_getElem?_getD, List.getElem?_eq_getElem (by omega)]
  rfl
/-- what a valid step says of its operands -/
theorem stepB_ops {M : List Bool} {s : Stp} (h : stepB M s = true) : isO s.op = true ∧ 0 ≤ s.n ∧ s.n ≤ (opr s.op).x ∧ (0 < (opr s.op).k → 0 ≤ s.a ∧ s.a < M.length) ∧ (1 < (opr s.op).k → 0 ≤ s.b ∧ s.b < M.length) := by
  unfold stepB at h
  simp only [Bool.and_eq_true, decide_eq_true_eq] at h
  obtain ⟨⟨⟨⟨h1, h2⟩, h3⟩, h4⟩, h5⟩ := h
  refine ⟨h1, h2, h3, fun hk => ?_, fun hk => ?_⟩
  · unfold opndB at h4
    rw [if_neg (by simp; omega)] at h4
    simp only [Bool.and_eq_true, decide_eq_true_eq] at h4
    exact h4.1
  · unfold opndB at h5
    rw [if_neg (by simp; omega)] at h5
    simp only [Bool.and_eq_true, decide_eq_true_eq] at h5
    exact h5.1
theorem funit_eql (p q : U) (w : World) : (binOp .eql 34 (uV p) (uV q)).run Tryd.prog w = .ok (.bool (decide (p = q))) w := by
  obtain ⟨a0, a1, a2⟩ := p
  obtain ⟨b0, b1, b2⟩ := q
  have hd : decide ((⟨a0, a1, a2⟩ : U) = ⟨b0, b1, b2⟩) = (a0 == b0 && (a1 == b1 && a2 == b2)) := by
    rw [Bool.eq_iff_iff]
    simp
  rw [hd]
  simp only [uV]
  simp [go_sem]
  repeat' split
  all_goals simp_all
theorem funit_neq (p q : U) (w : World) : (binOp .neq 34 (uV p) (uV q)).run Tryd.prog w = .ok (.bool (!decide (p = q))) w := by
  have h := funit_eql p q w
  simp only [uV] at *
  rw [run_eql_struct] at h
  rw [run_neq_struct]
  generalize (Op.equalIn 10000 34 (.agg #[.int .i64 p.a, .int .i64 p.b, .int .i64 p.c]) (.agg #[.int .i64 q.a, .int .i64 q.b, .int .i64 q.c])).run Tryd.prog w = r at *
  cases r with
  | ok v w' =>
    simp only [Result.andThen_ok, Result.ok.injEq, Value.bool.injEq] at h ⊢
    exact ⟨by rw [h.1], h.2⟩
  | halt x w' => simp [Result.andThen] at h
end Go.Proofs.YtogcnmjipfllaaaDoor
