/- weather: what Parse computes, in plain Lean -/
import Derived.Test.YtbkheiilcfhfpaaDoorWeaMst
namespace Go.Proofs.YtbkheiilcfhfpaaDoor
open Go.RowKit

def Sp.setF (s : Sp) (o : Nat) (x : Int) : Sp := match o with
  | 1 => { s with q := x }
  | 2 => { s with n := x }
  | _ => s
theorem Sp.setF_cells (s : Sp) (o : Nat) (x : Int) (h : o = 1 ∨ o = 2) : (s.setF o x).cells = s.cells.set o (.int .i64 x) := by
  rcases h with rfl | rfl <;> rfl
def wCloud : List UInt8 := [99, 108, 111, 117, 100]
def wSeeing : List UInt8 := [115, 101, 101, 105, 110, 103]
def wClosed : List UInt8 := [99, 108, 111, 115, 101, 100]
def wFrom : List UInt8 := [102, 114, 111, 109]
def wUntil : List UInt8 := [117, 110, 116, 105, 108]
def kindOf (t : List UInt8) : Int := if t = wCloud then 1 else if t = wSeeing then 2 else if t = wClosed then 3 else 0
/-- the fields that a kind's numbers fill -/
def offsK (k : Int) : List Nat := if k = 1 then [1, 2] else if k = 2 then [2] else []
def numsP (en : Int) : List Nat → Sp → List Tok → PR Sp
  | [], s, ts => .ok s ts
  | o :: os, s, ts => match nx en 2 ts with
    | .bad e n => .bad e n
    | .ok t r => numsP en os (s.setF o t.n) r
/-- what stands behind the numbers -/
def tail5 (en : Int) (s : Sp) (ts : List Tok) : PR (Sp × Int) := match mst en 4 [59] ts with
  | .bad e n => .bad e n
  | .ok d r => .ok (s, d) r
def tail4 (en : Int) (s : Sp) (ts : List Tok) : PR (Sp × Int) := match nx en 2 ts with
  | .bad e n => .bad e n
  | .ok t r => tail5 en { s with b := t.n } r
def tail3 (en : Int) (s : Sp) (ts : List Tok) : PR (Sp × Int) := match mst en 1 wUntil ts with
  | .bad e n => .bad e n
  | .ok _ r => tail4 en s r
def tail2 (en : Int) (s : Sp) (ts : List Tok) : PR (Sp × Int) := match nx en 2 ts with
  | .bad e n => .bad e n
  | .ok t r => tail3 en { s with a := t.n } r
def tailP (en : Int) (s : Sp) (ts : List Tok) : PR (Sp × Int) := match mst en 1 wFrom ts with
  | .bad e n => .bad e n
  | .ok _ r => tail2 en s r
def sp0 : Sp := ⟨0, 0, 0, 0, 0⟩
/-- one spell -/
def spellP (en : Int) (ts : List Tok) : PR (Sp × Int) :=
  match nx en 1 ts with
  | .bad e n => .bad e n
  | .ok wd r => if kindOf wd.t = 0 then .bad 5 wd.at_ else
    match numsP en (offsK (kindOf wd.t)) { sp0 with k := kindOf wd.t } r with
    | .bad e n => .bad e n
    | .ok s r => tailP en s r
def judge (k : Nat) (x : PR (Sp × Int)) : PR Sp :=
  match x with
  | .bad e n => .bad e n
  | .ok (s, d) r => if formB s = false then .bad 9 d else if k = 200 then .bad 2 d else .ok s r
/-- one spell, judged: the k-th -/
def oneP (en : Int) (k : Nat) (ts : List Tok) : PR Sp := judge k (spellP en ts)
def restP (en : Int) (os : List Nat) (s : Sp) (ts : List Tok) : PR (Sp × Int) :=
  match numsP en os s ts with
  | .bad e n => .bad e n
  | .ok s r => tailP en s r
theorem restP_nil (en : Int) (s : Sp) (ts : List Tok) : restP en [] s ts = tailP en s ts := rfl
theorem restP_cons {en : Int} {o : Nat} {os : List Nat} {s : Sp} {ts r : List Tok} {t : Tok} (h : nx en 2 ts = .ok t r) : restP en (o :: os) s ts = restP en os (s.setF o t.n) r := by
  unfold restP; rw [numsP, h]
theorem restP_bad {en : Int} {o : Nat} {os : List Nat} {s : Sp} {ts : List Tok} {e n : Int} (h : nx en 2 ts = .bad e n) : restP en (o :: os) s ts = .bad e n := by
  unfold restP; rw [numsP, h]
def joinS (L : List Sp) (r : List Sp × Int × Int) : List Sp × Int × Int := if r.2.1 = 0 then (L ++ r.1, 0, r.2.2) else ([], r.2.1, r.2.2)
def goP (en : Int) : Nat → Nat → List Tok → List Sp × Int × Int
  | 0, _, _ => ([], 0, 0)
  | f + 1, k, ts => if ts = [] then ([], 0, 0) else match oneP en k ts with
    | .bad e n => ([], e, n)
    | .ok s r => joinS [s] (goP en f (k + 1) r)
def parseL (l : List UInt8) : List Sp × Int × Int :=
  if (lexL l).2.1 = 0 then goP l.length ((lexL l).1.length + 1) 0 (lexL l).1 else ([], (lexL l).2.1, (lexL l).2.2)

/-! ### a reader leaves no more than it took -/
theorem nx_len {en k : Int} {ts r : List Tok} {t : Tok} (h : nx en k ts = .ok t r) : r.length + 1 = ts.length := by
  cases ts with
  | nil => cases h
  | cons a ts =>
    simp only [nx] at h
    by_cases hk : a.k = k
    · rw [if_pos hk] at h; cases h; rfl
    · rw [if_neg hk] at h; cases h
theorem mst_len {en k : Int} {tx : List UInt8} {ts r : List Tok} {a : Int} (h : mst en k tx ts = .ok a r) : r.length + 1 = ts.length := by
  unfold mst at h
  cases hx : nx en k ts with
  | bad e n => rw [hx] at h; cases h
  | ok t r' =>
    rw [hx] at h
    simp only at h
    split at h
    · cases h; exact nx_len hx
    · cases h
theorem numsP_len {en : Int} {os : List Nat} {s s' : Sp} {ts r : List Tok} (h : numsP en os s ts = .ok s' r) : r.length ≤ ts.length := by
  induction os generalizing s ts with
  | nil => unfold numsP at h; cases h; exact Nat.le_refl _
  | cons o os ih =>
    unfold numsP at h
    cases hx : nx en 2 ts with
    | bad e n => rw [hx] at h; cases h
    | ok t r' => rw [hx] at h; have := ih h; have := nx_len hx; omega
theorem tail5_len {en : Int} {s : Sp} {ts r : List Tok} {x : Sp × Int} (h : tail5 en s ts = .ok x r) : r.length < ts.length := by
  unfold tail5 at h
  cases h1 : mst en 4 [59] ts with
  | bad e n => rw [h1] at h; cases h
  | ok a1 r1 => rw [h1] at h; have l1 := mst_len h1; cases h; omega
theorem tail4_len {en : Int} {s : Sp} {ts r : List Tok} {x : Sp × Int} (h : tail4 en s ts = .ok x r) : r.length < ts.length := by
  unfold tail4 at h
  cases h1 : nx en 2 ts with
  | bad e n => rw [h1] at h; cases h
  | ok a1 r1 => rw [h1] at h; have l1 := nx_len h1; have l2 := tail5_len h; omega
theorem tail3_len {en : Int} {s : Sp} {ts r : List Tok} {x : Sp × Int} (h : tail3 en s ts = .ok x r) : r.length < ts.length := by
  unfold tail3 at h
  cases h1 : mst en 1 wUntil ts with
  | bad e n => rw [h1] at h; cases h
  | ok a1 r1 => rw [h1] at h; have l1 := mst_len h1; have l2 := tail4_len h; omega
theorem tail2_len {en : Int} {s : Sp} {ts r : List Tok} {x : Sp × Int} (h : tail2 en s ts = .ok x r) : r.length < ts.length := by
  unfold tail2 at h
  cases h1 : nx en 2 ts with
  | bad e n => rw [h1] at h; cases h
  | ok a1 r1 => rw [h1] at h; have l1 := nx_len h1; have l2 := tail3_len h; omega
theorem tailP_len {en : Int} {s : Sp} {ts r : List Tok} {x : Sp × Int} (h : tailP en s ts = .ok x r) : r.length < ts.length := by
  unfold tailP at h
  cases h1 : mst en 1 wFrom ts with
  | bad e n => rw [h1] at h; cases h
  | ok a1 r1 => rw [h1] at h; have l1 := mst_len h1; have l2 := tail2_len h; omega
theorem oneP_len {en : Int} {k : Nat} {ts r : List Tok} {s : Sp} (h : oneP en k ts = .ok s r) : r.length < ts.length := by
  unfold oneP judge at h
  cases hs : spellP en ts with
  | bad e n => rw [hs] at h; cases h
  | ok x r' =>
    rw [hs] at h
    obtain ⟨s', d⟩ := x
    simp only at h
    split at h
    · cases h
    · split at h
      · cases h
      · cases h
        unfold spellP at hs
        cases h1 : nx en 1 ts with
        | bad e n => rw [h1] at hs; cases hs
        | ok wd r1 =>
          rw [h1] at hs; simp only at hs
          have l1 := nx_len h1
          split at hs
          · cases hs
          · cases h2 : numsP en (offsK (kindOf wd.t)) { sp0 with k := kindOf wd.t } r1 with
            | bad e n => rw [h2] at hs; cases hs
            | ok s2 r2 =>
              rw [h2] at hs; simp only at hs
              have l2 := numsP_len h2
              have l3 := tailP_len hs
              omega
theorem joinS_nil (r : List Sp × Int × Int) (h : r.2.1 ≠ 0 → r.1 = []) : joinS [] r = r := by
  unfold joinS
  split
  · rename_i h0; obtain ⟨a, b, c⟩ := r; simp at h0 ⊢; exact h0.symm
  · rename_i h0; obtain ⟨a, b, c⟩ := r; simp at h h0 ⊢; exact h h0
theorem joinS_join (L : List Sp) (s : Sp) (r : List Sp × Int × Int) : joinS L (joinS [s] r) = joinS (L ++ [s]) r := by
  unfold joinS
  by_cases h : r.2.1 = 0
  · simp [h]
  · simp [h]
theorem goP_err (en : Int) (f k : Nat) (ts : List Tok) : (goP en f k ts).2.1 ≠ 0 → (goP en f k ts).1 = [] := by
  cases f with
  | zero => simp [goP]
  | succ f =>
    unfold goP
    split
    · simp
    · split
      · simp
      · unfold joinS; split <;> simp
theorem nx_bad {en k : Int} {ts : List Tok} {e n : Int} (h : nx en k ts = .bad e n) : e ≠ 0 := by
  cases ts with
  | nil => cases h; decide
  | cons a ts =>
    simp only [nx] at h
    by_cases hk : a.k = k
    · rw [if_pos hk] at h; cases h
    · rw [if_neg hk] at h; cases h; decide
theorem mst_bad {en k : Int} {tx : List UInt8} {ts : List Tok} {e n : Int} (h : mst en k tx ts = .bad e n) : e ≠ 0 := by
  unfold mst at h
  cases hx : nx en k ts with
  | bad e' n' => rw [hx] at h; cases h; exact nx_bad hx
  | ok t r =>
    rw [hx] at h
    simp only at h
    split at h
    · cases h
    · cases h; decide
theorem numsP_bad {en : Int} {os : List Nat} {s : Sp} {ts : List Tok} {e n : Int} (h : numsP en os s ts = .bad e n) : e ≠ 0 := by
  induction os generalizing s ts with
  | nil => cases h
  | cons o os ih =>
    unfold numsP at h
    cases hx : nx en 2 ts with
    | bad e' n' => rw [hx] at h; cases h; exact nx_bad hx
    | ok t r' => rw [hx] at h; exact ih h
theorem tail5_bad {en : Int} {s : Sp} {ts : List Tok} {e n : Int} (h : tail5 en s ts = .bad e n) : e ≠ 0 := by
  unfold tail5 at h
  cases h1 : mst en 4 [59] ts with
  | bad e' n' => rw [h1] at h; cases h; exact mst_bad h1
  | ok a1 r1 => rw [h1] at h; cases h
theorem tail4_bad {en : Int} {s : Sp} {ts : List Tok} {e n : Int} (h : tail4 en s ts = .bad e n) : e ≠ 0 := by
  unfold tail4 at h
  cases h1 : nx en 2 ts with
  | bad e' n' => rw [h1] at h; cases h; exact nx_bad h1
  | ok a1 r1 => rw [h1] at h; exact tail5_bad h
theorem tail3_bad {en : Int} {s : Sp} {ts : List Tok} {e n : Int} (h : tail3 en s ts = .bad e n) : e ≠ 0 := by
  unfold tail3 at h
  cases h1 : mst en 1 wUntil ts with
  | bad e' n' => rw [h1] at h; cases h; exact mst_bad h1
  | ok a1 r1 => rw [h1] at h; exact tail4_bad h
theorem tail2_bad {en : Int} {s : Sp} {ts : List Tok} {e n : Int} (h : tail2 en s ts = .bad e n) : e ≠ 0 := by
  unfold tail2 at h
  cases h1 : nx en 2 ts with
  | bad e' n' => rw [h1] at h; cases h; exact nx_bad h1
  | ok a1 r1 => rw [h1] at h; exact tail3_bad h
theorem tailP_bad {en : Int} {s : Sp} {ts : List Tok} {e n : Int} (h : tailP en s ts = .bad e n) : e ≠ 0 := by
  unfold tailP at h
  cases h1 : mst en 1 wFrom ts with
  | bad e' n' => rw [h1] at h; cases h; exact mst_bad h1
  | ok a1 r1 => rw [h1] at h; exact tail2_bad h
theorem spellP_bad {en : Int} {ts : List Tok} {e n : Int} (hs : spellP en ts = .bad e n) : e ≠ 0 := by
  unfold spellP at hs
  cases h1 : nx en 1 ts with
  | bad e n => rw [h1] at hs; cases hs; exact nx_bad h1
  | ok wd r1 =>
    rw [h1] at hs; simp only at hs
    split at hs
    · cases hs; decide
    · cases h2 : numsP en (offsK (kindOf wd.t)) { sp0 with k := kindOf wd.t } r1 with
      | bad e n => rw [h2] at hs; cases hs; exact numsP_bad h2
      | ok s2 r2 => rw [h2] at hs; exact tailP_bad hs
theorem oneP_bad {en : Int} {k : Nat} {ts : List Tok} {e n : Int} (h : oneP en k ts = .bad e n) : e ≠ 0 := by
  unfold oneP judge at h
  cases hs : spellP en ts with
  | bad e' n' => rw [hs] at h; cases h; exact spellP_bad hs
  | ok x r' =>
    rw [hs] at h
    obtain ⟨s', d⟩ := x
    simp only at h
    split at h
    · cases h; decide
    · split at h
      · cases h; decide
      · cases h
/-- what a round knows of the whole -/
theorem round_bad {l : List UInt8} {en : Int} {L : List Sp} {f k : Nat} {ts : List Tok} {e n : Int} (hp : parseL l = joinS L (goP en (f + 1) k ts)) (hts : ts ≠ []) (h : oneP en k ts = .bad e n) : parseL l = ([], e, n) := by
  rw [hp]
  unfold goP
  rw [if_neg hts, h]
  unfold joinS
  rw [if_neg (oneP_bad h)]
theorem round_ok {l : List UInt8} {en : Int} {L : List Sp} {f k : Nat} {ts r : List Tok} {s : Sp} (hp : parseL l = joinS L (goP en (f + 1) k ts)) (hts : ts ≠ []) (h : oneP en k ts = .ok s r) : parseL l = joinS (L ++ [s]) (goP en f (k + 1) r) := by
  rw [hp, goP, if_neg hts, h]
  exact joinS_join L s _
theorem kindOf_range (t : List UInt8) : kindOf t = 0 ∨ isK (kindOf t) = true := by
  unfold kindOf
  split
  · exact .inr rfl
  · split
    · exact .inr rfl
    · split
      · exact .inr rfl
      · exact .inl rfl
end Go.Proofs.YtbkheiilcfhfpaaDoor
