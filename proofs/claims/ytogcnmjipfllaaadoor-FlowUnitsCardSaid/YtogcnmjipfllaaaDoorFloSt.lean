/- flow: the parser's state; fail, sees, take, must, number -/
import Derived.Test.YtogcnmjipfllaaaDoorFloOps
import Derived.Test.YtogcnmjipfllaaaDoorLexTok
import Derived.Recover
import Derived.WalkLawsBesides
namespace Go.Proofs.YtogcnmjipfllaaaDoor
open Go.RowKit

/-- a step of a pipeline -/
structure Stp where
  op : Int
  a : Int
  b : Int
  n : Int
  deriving DecidableEq
def Stp.cells (s : Stp) : List Value := [.int .i64 s.op, .int .i64 s.a, .int .i64 s.b, .int .i64 s.n]
def Stp.v (s : Stp) : Value := .agg s.cells.toArray
def stpsCells (l : List Stp) : List Value := l.flatMap Stp.cells
def tokC (t : Tok) : Value := .agg #[.int .i64 t.k, .string ⟨t.t.toArray⟩, .int .i64 t.n, .int .i64 t.at_]
def failV (e n : Int) : Value := .iface 66 (.agg #[.int .i64 e, .int .i64 n])
def panicE (e n : Int) : Ending := .panicked [{ v := failV e n, recovered := false }]
/-- what the parser's box holds behind its tokens -/
structure PT where
  en : Nat
  nv : Value
  name : ByteArray
  ver : Int
  sv : Value
/-- the parser's box: the tokens that are left -/
def PB (w : World) (pb : Nat) (p : PT) (ts : List Tok) : Prop := ∃ ao cap, Blk w pb 70 [.slice ao ts.length cap, .int .i64 p.en, p.nv, .string p.name, .int .i64 p.ver, p.sv] ∧ Toks w ao ts ∧ ts.length ≤ cap ∧ cap ≤ maxLen ∧ (ts ≠ [] → ∃ b off, ao = some ⟨b, off, none⟩ ∧ b < pb)
theorem PB.lt {w : World} {pb : Nat} {p : PT} {ts : List Tok} (h : PB w pb p ts) : pb < w.heap.size := by obtain ⟨_, _, h, _⟩ := h; exact h.lt
theorem PB.below {w w' : World} {pb : Nat} {p : PT} {ts : List Tok} (h : PB w pb p ts) (hB : Below w.heap.size w w') : PB w' pb p ts := by
  obtain ⟨ao, cap, hb, hT, h1, h2, h3⟩ := h
  exact ⟨ao, cap, hb.below hB hb.lt, SlV.below hT hB, h1, h2, h3⟩
theorem PB.chg {S : Nat → Prop} {w w' : World} {pb : Nat} {p : PT} {ts : List Tok} (h : PB w pb p ts) (hc : Chg S w w') (hs : ∀ q, q ≤ pb → ¬ S q) : PB w' pb p ts := by
  obtain ⟨ao, cap, hb, hT, h1, h2, h3⟩ := h
  refine ⟨ao, cap, hb.chg hc (hs pb (Nat.le_refl _)), ?_, h1, h2, h3⟩
  cases ts with
  | nil => exact ⟨by simp [toksCells], by simp [toksCells]⟩
  | cons t ts =>
    obtain ⟨b, off, rfl, hlt⟩ := h3 (by simp)
    exact SlV.chg hT hc (fun b' off' e _ => by cases e; exact hs b (by omega))
def pT (pb : Nat) : Value := .pointer (some ⟨pb, 0, none⟩)
/-- where the parser fails -/
def failAt (en : Nat) (e : Int) : List Tok → Int × Int
  | [] => (6, en)
  | t :: _ => (e, t.at_)
theorem fail_any (pb : Nat) (e : Int) (p : PT) (ts : List Tok) (w : World) (hP : PB w pb p ts) (hl : ts.length ≤ 1000000) :
    Calls Tryd.prog 40 #[pT pb, .int .i64 e] w fun e' w' => e' = panicE (failAt p.en e ts).1 (failAt p.en e ts).2 ∧ w' = w := by
  obtain ⟨ao, cap, hb, hT, h1, h2, h3⟩ := hP
  have c0 := hb.cell 0
  have c1 := hb.cell 1
  simp only [List.getElem?_cons_zero, List.getElem?_cons_succ] at c0 c1
  unfold pT
  cases ts with
  | nil =>
    simp only [List.length_nil] at c0
    go_enter Tryd.func40, Tryd.ntmps40
    go_wp2_with fail
    exact ⟨rfl, rfl, rfl⟩
  | cons t ts =>
    obtain ⟨b, off, rfl, hlt, a0, a1, a2, a3⟩ := Toks.get hT (i := 0) rfl
    simp only [List.length_cons] at c0 hl
    simp only [Nat.mul_zero, Nat.zero_add] at a3
    have hne : ¬ ((ts.length + 1 : Nat) : Int) = 0 := by omega
    have hpos : (0 : Int) < ((ts.length + 1 : Nat) : Int) := by omega
    generalize ts.length + 1 = n at *
    go_enter Tryd.func40, Tryd.ntmps40
    go_wp2_with fail
    exact ⟨rfl, rfl, rfl⟩
end Go.Proofs.YtogcnmjipfllaaaDoor
