/- flow: the parser, plain -/
import Derived.Test.YtogcnmjipfllaaaDoorFloMak
namespace Go.Proofs.YtogcnmjipfllaaaDoor
open Go.RowKit

def PR.bind {α β : Type} (x : PR α) (f : α → List Tok → PR β) : PR β :=
  match x with
  | .ok a r => f a r
  | .bad e n => .bad e n
def failR {α : Type} (en : Nat) (e : Int) (ts : List Tok) : PR α := .bad (failAt en e ts).1 (failAt en e ts).2
/-- is the result of the step i a mask -/
def mkB (S : List Stp) (i : Int) : Bool := match S[i.toNat]? with | some s => (opr s.op).m | none => false
/-- an operand -/
def opdF (en : Nat) (N : List ByteArray) (S : List Stp) (mask : Bool) (ts : List Tok) : PR Int :=
  if freeB ts = true then
    match ts with
    | [] => failR en 5 []
    | t :: r => if Lib.idxOfS N ⟨t.t.toArray⟩ < 0 then failR en 7 (t :: r) else if mkB S (Lib.idxOfS N ⟨t.t.toArray⟩) ≠ mask then failR en 1 (t :: r) else .ok (Lib.idxOfS N ⟨t.t.toArray⟩) r
  else failR en 5 ts
def wrdN (b : List UInt8) : Nat :=
  if b = [105, 110] then 1 else if b = [115, 99, 97, 108, 101] then 5 else if b = [109, 97, 120] then 6 else if b = [97, 116, 108, 101, 97, 115, 116] then 7 else if b = [97, 110, 100] then 8 else if b = [111, 114] then 9 else if b = [110, 111, 116] then 10 else 0
def symN (b : List UInt8) : Nat := if b = [43] then 2 else if b = [45] then 3 else if b = [42] then 4 else 0
/-- the operator whose word is next; the operator whose symbol is next; 0: none -/
def wrdOp : List Tok → Nat
  | [] => 0
  | t :: _ => if t.k = 1 then wrdN t.t else 0
def symOp : List Tok → Nat
  | [] => 0
  | t :: _ => if t.k = 4 then symN t.t else 0
/-- what stands between = and ; of a step -/
def stepF (en : Nat) (N : List ByteArray) (S : List Stp) (ts : List Tok) : PR Stp :=
  if wrdOp ts = 0 then
    (opdF en N S false ts).bind fun a r => if symOp r = 0 then failR en 5 r else (opdF en N S false r.tail).bind fun b r2 => .ok ⟨symOp r, a, b, 0⟩ r2
  else
    (if 1 ≤ (opr (wrdOp ts)).k then opdF en N S (opr (wrdOp ts)).t ts.tail else .ok 0 ts.tail).bind fun a r =>
    (if 2 ≤ (opr (wrdOp ts)).k then opdF en N S (opr (wrdOp ts)).t r else .ok 0 r).bind fun b r2 =>
    (if 0 < (opr (wrdOp ts)).x then numF en 0 (opr (wrdOp ts)).x r2 else .ok 0 r2).bind fun n r3 => .ok ⟨wrdOp ts, a, b, n⟩ r3
/-- the steps; fuel -/
def loopF (en : Nat) : Nat → List ByteArray → List Stp → List Tok → PR (List ByteArray × List Stp)
  | 0, _, _, ts => failR en 5 ts
  | f + 1, N, S, ts =>
    if seesB 1 [111, 117, 116] ts = true then .ok (N, S) ts
    else if freeB ts = true then
      match ts with
      | [] => failR en 5 []
      | t :: r =>
        if Lib.containsS N ⟨t.t.toArray⟩ = true then failR en 8 (t :: r)
        else if N.length = 40 then failR en 2 (t :: r)
        else (mustF en 4 [61] r).bind fun _ r1 => (stepF en N S r1).bind fun s r2 => (mustF en 4 [59] r2).bind fun _ r3 => loopF en f (N ++ [⟨t.t.toArray⟩]) (S ++ [s]) r3
    else failR en 5 ts
structure Flw where
  name : ByteArray
  ver : Int
  steps : List Stp
def flw0 : Flw := ⟨⟨#[]⟩, 0, []⟩
/-- behind out -/
def tailF (en : Nat) (nm : ByteArray) (v : Int) (N : List ByteArray) (S : List Stp) (ts : List Tok) : PR Flw :=
  if freeB ts = true then
    match ts with
    | [] => failR en 5 []
    | t :: r =>
      if N.length = 0 ∨ some (⟨t.t.toArray⟩ : ByteArray) ≠ N.getLast? then failR en 7 (t :: r)
      else if mkB S ((N.length - 1 : Nat) : Int) = false then failR en 1 (t :: r)
      else (mustF en 4 [59] r).bind fun _ r1 => (mustF en 4 [125] r1).bind fun _ r2 => if r2 = [] then .ok ⟨nm, v, S⟩ [] else failR en 5 r2
  else failR en 5 ts
def flowF (en : Nat) (ts : List Tok) : PR Flw :=
  (mustF en 1 [102, 108, 111, 119] ts).bind fun _ r => (mustF en 1 [] r).bind fun nm r1 => (numF en 1 99 r1).bind fun v r2 => (mustF en 4 [123] r2).bind fun _ r3 =>
    (loopF en (r3.length + 1) [] [] r3).bind fun ns r4 => tailF en ⟨nm.t.toArray⟩ v ns.1 ns.2 r4.tail
def parF (l : List UInt8) : Flw × Int × Int :=
  if (lexL l).2.1 = 0 then
    match flowF l.length (lexL l).1 with
    | .ok f _ => (f, 0, 0)
    | .bad e n => (flw0, e, n)
  else (flw0, (lexL l).2.1, (lexL l).2.2)
/-! ### the operators' words and symbols -/
theorem wrdN_is {n : Nat} (h1 : 1 ≤ n) (h2 : n ≤ 10) (b : List UInt8) (hw : (opr n).word ≠ ⟨#[]⟩) : wrdN b = n ↔ b = (opr n).word.data.toList := by
  have : n = 1 ∨ n = 2 ∨ n = 3 ∨ n = 4 ∨ n = 5 ∨ n = 6 ∨ n = 7 ∨ n = 8 ∨ n = 9 ∨ n = 10 := by omega
  constructor
  · intro h
    unfold wrdN at h
    repeat (split at h; (rename_i hb; subst hb; subst h; rfl))
    omega
  · intro h
    subst h
    rcases this with rfl | rfl | rfl | rfl | rfl | rfl | rfl | rfl | rfl | rfl
    all_goals first | rfl | (exfalso; exact hw rfl)
theorem symN_is {n : Nat} (h1 : 1 ≤ n) (h2 : n ≤ 10) (b : List UInt8) (hw : (opr n).sym ≠ ⟨#[]⟩) : symN b = n ↔ b = (opr n).sym.data.toList := by
  have : n = 1 ∨ n = 2 ∨ n = 3 ∨ n = 4 ∨ n = 5 ∨ n = 6 ∨ n = 7 ∨ n = 8 ∨ n = 9 ∨ n = 10 := by omega
  constructor
  · intro h
    unfold symN at h
    repeat (split at h; (rename_i hb; subst hb; subst h; rfl))
    omega
  · intro h
    subst h
    rcases this with rfl | rfl | rfl | rfl | rfl | rfl | rfl | rfl | rfl | rfl
    all_goals first | rfl | (exfalso; exact hw rfl)
theorem wrdN_le (b : List UInt8) : wrdN b ≤ 10 := by unfold wrdN; (repeat' split) <;> omega
theorem symN_le (b : List UInt8) : symN b ≤ 4 := by unfold symN; (repeat' split) <;> omega
theorem wrdOp_le (ts : List Tok) : wrdOp ts ≤ 10 := by
  cases ts with
  | nil => exact Nat.zero_le _
  | cons t r => simp only [wrdOp]; split; exact wrdN_le _; omega
theorem symOp_le (ts : List Tok) : symOp ts ≤ 10 := by
  cases ts with
  | nil => exact Nat.zero_le _
  | cons t r => simp only [symOp]; split; exact Nat.le_trans (symN_le _) (by omega); omega
theorem data_ne {b : ByteArray} (h : b ≠ ⟨#[]⟩) : b.data.toList ≠ [] := fun q => h (ByteArray.ext (Array.toList_inj.1 q))
theorem sees_wrd {n : Nat} (h1 : 1 ≤ n) (h2 : n ≤ 10) (hw : (opr n).word ≠ ⟨#[]⟩) (ts : List Tok) : seesB 1 (opr n).word.data.toList ts = decide (wrdOp ts = n) := by
  rw [Bool.eq_iff_iff, decide_eq_true_iff]
  cases ts with
  | nil =>
    rw [show wrdOp [] = 0 from rfl]
    simp only [seesB]
    constructor
    · intro h; cases h
    · intro h; omega
  | cons t r =>
    have hi := wrdN_is h1 h2 t.t hw
    have hd := data_ne hw
    rw [show wrdOp (t :: r) = if t.k = 1 then wrdN t.t else 0 from rfl]
    simp only [seesB, Bool.and_eq_true, Bool.or_eq_true, decide_eq_true_eq]
    constructor
    · rintro ⟨hk, h | h⟩
      · exact absurd h hd
      · rw [if_pos hk]; exact hi.2 h
    · intro h
      by_cases hk : t.k = 1
      · rw [if_pos hk] at h; exact ⟨hk, .inr (hi.1 h)⟩
      · rw [if_neg hk] at h; omega
theorem sees_sym {n : Nat} (h1 : 1 ≤ n) (h2 : n ≤ 10) (hw : (opr n).sym ≠ ⟨#[]⟩) (ts : List Tok) : seesB 4 (opr n).sym.data.toList ts = decide (symOp ts = n) := by
  rw [Bool.eq_iff_iff, decide_eq_true_iff]
  cases ts with
  | nil =>
    rw [show symOp [] = 0 from rfl]
    simp only [seesB]
    constructor
    · intro h; cases h
    · intro h; omega
  | cons t r =>
    have hi := symN_is h1 h2 t.t hw
    have hd := data_ne hw
    rw [show symOp (t :: r) = if t.k = 4 then symN t.t else 0 from rfl]
    simp only [seesB, Bool.and_eq_true, Bool.or_eq_true, decide_eq_true_eq]
    constructor
    · rintro ⟨hk, h | h⟩
      · exact absurd h hd
      · rw [if_pos hk]; exact hi.2 h
    · intro h
      by_cases hk : t.k = 4
      · rw [if_pos hk] at h; exact ⟨hk, .inr (hi.1 h)⟩
      · rw [if_neg hk] at h; omega
theorem wrdOp_word {ts : List Tok} (h : wrdOp ts ≠ 0) : (opr (wrdOp ts)).word ≠ ⟨#[]⟩ := by
  cases ts with
  | nil => exact absurd rfl h
  | cons t r =>
    simp only [wrdOp] at h ⊢
    split at h
    · rename_i hk
      rw [if_pos hk]
      unfold wrdN at h ⊢
      repeat (split at h; (rename_i hb; simp only [hb]; decide))
      exact absurd rfl h
    · exact absurd rfl h
/-- how the readers shorten -/
theorem mustF_ok {en : Nat} {k : Int} {tx : List UInt8} {ts : List Tok} {t : Tok} {r : List Tok} (h : mustF en k tx ts = .ok t r) : ts = t :: r ∧ seesB k tx ts = true := by
  cases ts with
  | nil => cases h
  | cons t' r' =>
    simp only [mustF] at h
    split at h
    · rename_i hs; cases h; exact ⟨rfl, hs⟩
    · cases h
theorem numF_ok {en : Nat} {lo hi : Int} {ts : List Tok} {n : Int} {r : List Tok} (h : numF en lo hi ts = .ok n r) : ∃ t, ts = t :: r ∧ t.k = 2 ∧ t.n = n ∧ lo ≤ n ∧ n ≤ hi := by
  cases ts with
  | nil => cases h
  | cons t' r' =>
    simp only [numF] at h
    split at h
    · rename_i hk
      split at h
      · cases h
      · rename_i hn; cases h; exact ⟨t', rfl, hk, rfl, by omega, by omega⟩
    · cases h
theorem opdF_ok {en : Nat} {N : List ByteArray} {S : List Stp} {m : Bool} {ts : List Tok} {i : Int} {r : List Tok} (h : opdF en N S m ts = .ok i r) :
    ∃ t, ts = t :: r ∧ freeB ts = true ∧ i = Lib.idxOfS N ⟨t.t.toArray⟩ ∧ 0 ≤ i ∧ mkB S i = m := by
  unfold opdF at h
  split at h
  · rename_i hf
    cases ts with
    | nil => cases h
    | cons t r' =>
      simp only at h
      split at h
      · cases h
      · rename_i h0
        split at h
        · cases h
        · rename_i hm
          cases h
          exact ⟨t, rfl, hf, rfl, by omega, by simpa using hm⟩
  · cases h
end Go.Proofs.YtogcnmjipfllaaaDoor
