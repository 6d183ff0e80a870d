/- flow: the parser's flow: the state; the region that appends a step and its name -/
import Derived.Test.YtogcnmjipfllaaaDoorFloStp3
import Derived.Test.YtogcnmjipfllaaaDoorLibM
import Derived.Deep.LoopGhost
namespace Go.Proofs.YtogcnmjipfllaaaDoor
open Go.RowKit

theorem toks_chg {w w' : World} {pb : Nat} {ao : Option Addr} {ts : List Tok} (hT : Toks w ao ts) (h3 : ts ≠ [] → ∃ b off, ao = some ⟨b, off, none⟩ ∧ b < pb) (hc : Chg (fun b => b = pb ∨ w.heap.size ≤ b ∨ pb < b) w w') : Toks w' ao ts := by
  cases ts with
  | nil => exact ⟨by simp [toksCells], by simp [toksCells]⟩
  | cons t ts =>
    obtain ⟨b, off, rfl, hlt⟩ := h3 (by simp)
    exact SlV.chg hT hc (fun b' off' e hb => by cases e; omega)
/-- the parser's box with other fields -/
theorem PB.upd {w w' : World} {pb : Nat} {p p' : PT} {ts : List Tok} (h : PB w pb p ts) (hc : Chg (fun b => b = pb ∨ w.heap.size ≤ b ∨ pb < b) w w')
    (hb : ∀ ao cap, Blk w pb 70 [.slice ao ts.length cap, .int .i64 p.en, p.nv, .string p.name, .int .i64 p.ver, p.sv] → Blk w' pb 70 [.slice ao ts.length cap, .int .i64 p'.en, p'.nv, .string p'.name, .int .i64 p'.ver, p'.sv]) : PB w' pb p' ts := by
  obtain ⟨ao, cap, h1, h2, h3, h4, h5⟩ := h
  exact ⟨ao, cap, hb ao cap h1, toks_chg h2 h5 hc, h3, h4, h5⟩
theorem PB.blk {w : World} {pb : Nat} {p : PT} {ts : List Tok} (h : PB w pb p ts) : ∃ ao cap, Blk w pb 70 [.slice ao ts.length cap, .int .i64 p.en, p.nv, .string p.name, .int .i64 p.ver, p.sv] := by
  obtain ⟨ao, cap, h1, _⟩ := h
  exact ⟨ao, cap, h1⟩
/-- the state of the loop -/
structure FL (w0 w : World) (pb : Nat) (p : PT) (N : List ByteArray) (S : List Stp) (ts : List Tok) : Prop where
  box : PB w pb p ts
  names : w.ownsRow w0.heap.size 9 1 p.nv N.length (strV N)
  steps : w.ownsRow w0.heap.size 32 4 p.sv S.length (stpsCells S)
  chg : Chg (fun b => b = pb) w0 w
  len : N.length = S.length
  few : N.length ≤ 40
  lt : pb < w0.heap.size
theorem strV_len (N : List ByteArray) : (strV N).length = N.length := by simp [strV]
theorem FL.ns {w0 w : World} {pb : Nat} {p : PT} {N : List ByteArray} {S : List Stp} {ts : List Tok} (h : FL w0 w pb p N S ts) : NS w pb p N S := by
  have hf := h.few
  have hl := h.len
  have h0 := h.lt
  obtain ⟨no, nc, e1, s1⟩ := own_rowZ h.names (by unfold maxLen; omega)
  obtain ⟨so, sc, e2, s2⟩ := own_rowZ h.steps (by unfold maxLen; omega)
  refine ⟨no, nc, so, sc, e1, s1, e2, s2, fun b off e => ?_, fun b off e => ?_, hl, by omega⟩
  · have := h.names.lt b (by rw [e1, e]; rfl); omega
  · have := h.steps.lt b (by rw [e2, e]; rfl); omega
theorem FL.own_ne {w0 w : World} {pb : Nat} {p : PT} {N : List ByteArray} {S : List Stp} {ts : List Tok} (h : FL w0 w pb p N S ts) : (∀ k, p.nv.ownBlock = some k → k ≠ pb) ∧ (∀ k, p.sv.ownBlock = some k → k ≠ pb) := by
  have h0 := h.lt
  exact ⟨fun k hk => by have := (h.names.lt k hk).1; omega, fun k hk => by have := (h.steps.lt k hk).1; omega⟩
theorem FL.take {w0 w w' : World} {pb : Nat} {p : PT} {N : List ByteArray} {S : List Stp} {ts r : List Tok} (h : FL w0 w pb p N S ts) (hb : PB w' pb p r) (hc : Chg (fun b => b = pb) w w') : FL w0 w' pb p N S r :=
  ⟨hb, ownsRow_chgN h.names hc h.own_ne.1, ownsRow_chgN h.steps hc h.own_ne.2, h.chg.trans hc, h.len, h.few, h.lt⟩
/-- the rows' blocks are two -/
theorem own_apart {w : World} {B B' n n' sz sz' : Nat} {E E' : TypeId} {v v' : Value} {xs xs' : List Value} (h : w.ownsRow B E sz v n xs) (h' : w.ownsRow B' E' sz' v' n' xs') (hE : E ≠ E') : ∀ k, v.ownBlock = some k → v'.ownBlock ≠ some k := by
  intro k hk hk'
  rcases h.2 with ⟨e, _⟩ | ⟨g, cap, cur, hv, _, hh, _⟩
  · rw [e] at hk; cases hk
  rcases h'.2 with ⟨e, _⟩ | ⟨g', cap', cur', hv', _, hh', _⟩
  · rw [e] at hk'; cases hk'
  rw [hv] at hk
  rw [hv'] at hk'
  have e1 : g = k := by simpa [Value.ownBlock] using hk
  have e2 : g' = k := by simpa [Value.ownBlock] using hk'
  subst e1 e2
  rw [hh] at hh'
  cases hh'
  exact hE rfl
theorem ownsRow_grown {w w' : World} {B n sz : Nat} {E : TypeId} {v : Value} {xs : List Value} {row : Option Nat} (h : w.ownsRow B E sz v n xs) (hg : w.grownBy w' row) (hne : ∀ k, v.ownBlock = some k → row ≠ some k) : w'.ownsRow B E sz v n xs :=
  ownsRow_chgN (S := fun k => row = some k) h ((Chg.refl _ w).grown hg (fun _ h => h)) hne
theorem FL.below {w0 w w' : World} {pb : Nat} {p : PT} {N : List ByteArray} {S : List Stp} {ts : List Tok} (h : FL w0 w pb p N S ts) (hB : Below w.heap.size w w') : FL w0 w' pb p N S ts := h.take (h.box.below hB) (Chg.ofBelow hB)
theorem free_is {pb : Nat} {p : PT} {t : Tok} {r : List Tok} {w : World} (hP : PB w pb p (t :: r)) (hl : (t :: r).length ≤ 1000000) (hf : freeB (t :: r) = true) :
    Calls Tryd.prog 38 #[pT pb] w fun e w' => e = .returned (.string ⟨t.t.toArray⟩) ∧ Below w.heap.size w w' := free_yes pb p t r w hP hl hf
theorem loopF_out {en g : Nat} {N : List ByteArray} {S : List Stp} {ts : List Tok} (h : seesB 1 [111, 117, 116] ts = true) : loopF en (g + 1) N S ts = .ok (N, S) ts := by
  unfold loopF; exact if_pos h
theorem loopF_bad {en g : Nat} {N : List ByteArray} {S : List Stp} {ts : List Tok} (h : seesB 1 [111, 117, 116] ts = false) (h2 : freeB ts = false) : loopF en (g + 1) N S ts = failR en 5 ts := by
  unfold loopF
  rw [h, h2, if_neg (by simp), if_neg (by simp)]
theorem loopF_twice {en g : Nat} {N : List ByteArray} {S : List Stp} {t : Tok} {r : List Tok} (h : seesB 1 [111, 117, 116] (t :: r) = false) (h2 : freeB (t :: r) = true) (h3 : Lib.containsS N ⟨t.t.toArray⟩ = true) : loopF en (g + 1) N S (t :: r) = failR en 8 (t :: r) := by
  unfold loopF
  rw [h, h2, if_neg (by simp), if_pos rfl]
  exact if_pos h3
theorem loopF_limit {en g : Nat} {N : List ByteArray} {S : List Stp} {t : Tok} {r : List Tok} (h : seesB 1 [111, 117, 116] (t :: r) = false) (h2 : freeB (t :: r) = true) (h3 : Lib.containsS N ⟨t.t.toArray⟩ = false) (h4 : N.length = 40) : loopF en (g + 1) N S (t :: r) = failR en 2 (t :: r) := by
  unfold loopF
  rw [h, h2, if_neg (by simp), if_pos rfl]
  show (if Lib.containsS N ⟨t.t.toArray⟩ = true then _ else _) = _
  rw [h3, if_neg (by simp), if_pos h4]
theorem loopF_go {en g : Nat} {N : List ByteArray} {S : List Stp} {t : Tok} {r : List Tok} (h : seesB 1 [111, 117, 116] (t :: r) = false) (h2 : freeB (t :: r) = true) (h3 : Lib.containsS N ⟨t.t.toArray⟩ = false) (h4 : ¬ N.length = 40) :
    loopF en (g + 1) N S (t :: r) = (mustF en 4 [61] r).bind fun _ r1 => (stepF en N S r1).bind fun s r2 => (mustF en 4 [59] r2).bind fun _ r3 => loopF en g (N ++ [⟨t.t.toArray⟩]) (S ++ [s]) r3 := by
  conv => lhs; unfold loopF
  rw [h, h2, if_neg (by simp), if_pos rfl]
  show (if Lib.containsS N ⟨t.t.toArray⟩ = true then _ else _) = _
  rw [h3, if_neg (by simp), if_neg h4]
theorem tailF_bad {en : Nat} {nm : ByteArray} {v : Int} {N : List ByteArray} {S : List Stp} {ts : List Tok} (h : freeB ts = false) : tailF en nm v N S ts = failR en 5 ts := by
  unfold tailF; rw [h]; exact if_neg (by simp)
theorem tailF_name {en : Nat} {nm : ByteArray} {v : Int} {N : List ByteArray} {S : List Stp} {t : Tok} {r : List Tok} (h : freeB (t :: r) = true) (h2 : N.length = 0 ∨ some (⟨t.t.toArray⟩ : ByteArray) ≠ N.getLast?) : tailF en nm v N S (t :: r) = failR en 7 (t :: r) := by
  unfold tailF; rw [h, if_pos rfl]; exact if_pos h2
theorem tailF_arg {en : Nat} {nm : ByteArray} {v : Int} {N : List ByteArray} {S : List Stp} {t : Tok} {r : List Tok} (h : freeB (t :: r) = true) (h2 : ¬ (N.length = 0 ∨ some (⟨t.t.toArray⟩ : ByteArray) ≠ N.getLast?)) (h3 : mkB S ((N.length - 1 : Nat) : Int) = false) : tailF en nm v N S (t :: r) = failR en 1 (t :: r) := by
  unfold tailF; rw [h, if_pos rfl]
  show (if N.length = 0 ∨ some (⟨t.t.toArray⟩ : ByteArray) ≠ N.getLast? then _ else _) = _
  rw [if_neg h2]
  exact if_pos h3
theorem tailF_go {en : Nat} {nm : ByteArray} {v : Int} {N : List ByteArray} {S : List Stp} {t : Tok} {r : List Tok} (h : freeB (t :: r) = true) (h2 : ¬ (N.length = 0 ∨ some (⟨t.t.toArray⟩ : ByteArray) ≠ N.getLast?)) (h3 : mkB S ((N.length - 1 : Nat) : Int) = true) :
    tailF en nm v N S (t :: r) = (mustF en 4 [59] r).bind fun _ r1 => (mustF en 4 [125] r1).bind fun _ r2 => if r2 = [] then .ok ⟨nm, v, S⟩ [] else failR en 5 r2 := by
  unfold tailF; rw [h, if_pos rfl]
  show (if N.length = 0 ∨ some (⟨t.t.toArray⟩ : ByteArray) ≠ N.getLast? then _ else _) = _
  rw [if_neg h2]
  exact if_neg (by rw [h3]; simp)
theorem stepF_len {en : Nat} {N : List ByteArray} {S : List Stp} {ts : List Tok} {s : Stp} {r : List Tok} (h : stepF en N S ts = .ok s r) : r.length ≤ ts.length := by
  by_cases hw : wrdOp ts = 0
  · rw [stepF_sym hw] at h
    cases h1 : opdF en N S false ts with
    | bad e n => rw [h1] at h; cases h
    | ok a r1 =>
      rw [h1, PR.bind_ok] at h
      split at h
      · cases h
      · cases h2 : opdF en N S false r1.tail with
        | bad e n => rw [h2] at h; cases h
        | ok b r2 =>
          rw [h2, PR.bind_ok] at h
          cases h
          have := opdF_len h1
          have := opdF_len h2
          simp at this
          omega
  · rw [stepF_word hw] at h
    have ht : ts.tail.length ≤ ts.length := by simp
    have hA : ∀ {c : Prop} [Decidable c] {m : Bool} {l : List Tok} {a : Int} {r : List Tok}, (if c then opdF en N S m l else .ok 0 l) = .ok a r → r.length ≤ l.length := by
      intro c _ m l a r h
      split at h
      · exact Nat.le_of_lt (opdF_len h)
      · cases h; exact Nat.le_refl _
    have hB : ∀ {c : Prop} [Decidable c] {x : Int} {l : List Tok} {a : Int} {r : List Tok}, (if c then numF en 0 x l else .ok 0 l) = .ok a r → r.length ≤ l.length := by
      intro c _ x l a r h
      split at h
      · exact Nat.le_of_lt (numF_len h)
      · cases h; exact Nat.le_refl _
    cases h1 : (if 1 ≤ (opr (wrdOp ts)).k then opdF en N S (opr (wrdOp ts)).t ts.tail else .ok 0 ts.tail) with
    | bad e n => rw [h1] at h; cases h
    | ok a r1 =>
      rw [h1, PR.bind_ok] at h
      cases h2 : (if 2 ≤ (opr (wrdOp ts)).k then opdF en N S (opr (wrdOp ts)).t r1 else .ok 0 r1) with
      | bad e n => rw [h2] at h; cases h
      | ok b r2 =>
        rw [h2, PR.bind_ok] at h
        cases h3 : (if 0 < (opr (wrdOp ts)).x then numF en 0 (opr (wrdOp ts)).x r2 else .ok 0 r2) with
        | bad e n => rw [h3] at h; cases h
        | ok c r3 =>
          rw [h3, PR.bind_ok] at h
          cases h
          have := hA h1
          have := hA h2
          have := hB h3
          omega
end Go.Proofs.YtogcnmjipfllaaaDoor
