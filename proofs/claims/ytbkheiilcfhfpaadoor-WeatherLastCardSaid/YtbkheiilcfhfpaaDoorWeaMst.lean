/- weather: Parse's closures: must -/
import Derived.Test.YtbkheiilcfhfpaaDoorWeaNx
namespace Go.Proofs.YtbkheiilcfhfpaaDoor
open Go.RowKit

/-- what a reader hands back: a result and what is left, or an error with its offset -/
inductive PR (α : Type) where
  | ok (a : α) (r : List Tok)
  | bad (e n : Int)
def nx (en k : Int) : List Tok → PR Tok
  | [] => .bad 6 en
  | t :: r => if t.k = k then .ok t r else .bad 5 t.at_
def mst (en k : Int) (tx : List UInt8) (ts : List Tok) : PR Int :=
  match nx en k ts with
  | .bad e n => .bad e n
  | .ok t r => if t.t = tx then .ok t.at_ r else .bad 5 t.at_
def RPost {α : Type} (tb : Nat) (w : World) (v : α → Value) (r : PR α) (e : Ending) (w' : World) : Prop :=
  match r with
  | .ok t r => e = .returned (v t) ∧ TokSt w' tb r ∧ Chg (fun b => b = tb) w w'
  | .bad x n => e = panicE x n ∧ Chg (fun b => b = tb) w w'
theorem Chg.ofBelow {S : Nat → Prop} {w w' : World} (h : Below w.heap.size w w') : Chg S w w' := (Chg.refl S w).below h (fun k h1 h2 => by omega)
theorem nx_any (k : Int) (tb sb : Nat) (s : ByteArray) (ts : List Tok) (w : World) (hP : PBox w tb sb s ts) (hs : s.size ≤ 1000000) :
    Calls Tryd.prog 27 #[.int .i64 k, .pointer (some ⟨tb, 0, none⟩), .pointer (some ⟨sb, 0, none⟩)] w (RPost tb w tokC (nx s.size k ts)) := by
  cases ts with
  | nil =>
    refine (nx_nil k tb sb s w hP hs).mono ?_
    rintro e w' ⟨rfl, hB⟩
    exact ⟨rfl, .ofBelow hB⟩
  | cons t ts =>
    refine (nx_cons k tb sb s t ts w hP hs).mono ?_
    unfold nx
    by_cases h : t.k = k
    · simp only [if_pos h]; exact fun e w' h => h
    · simp only [if_neg h]
      rintro e w' ⟨rfl, hB⟩
      exact ⟨rfl, .ofBelow hB⟩
theorem nx_is (k : Int) (tb sb : Nat) (s : ByteArray) (ts : List Tok) (w : World) (hP : PBox w tb sb s ts) (hs : s.size ≤ 1000000) {r : PR Tok} (h : nx s.size k ts = r) :
    Calls Tryd.prog 27 #[.int .i64 k, .pointer (some ⟨tb, 0, none⟩), .pointer (some ⟨sb, 0, none⟩)] w (RPost tb w tokC r) := by
  subst h; exact nx_any k tb sb s ts w hP hs
def nextV (tb sb : Nat) : Value := .func (Fn.func 27) #[] #[.pointer (some ⟨tb, 0, none⟩), .pointer (some ⟨sb, 0, none⟩)]
theorem TokSt.below {w w' : World} {tb : Nat} {ts : List Tok} (h : TokSt w tb ts) (hB : Below w.heap.size w w') : TokSt w' tb ts := by
  obtain ⟨ao, cap, hb, hT, h1, h2, h3⟩ := h
  exact ⟨ao, cap, hb.below hB hb.lt, SlV.below hT hB, h1, h2, h3⟩
theorem TokSt.chg {S : Nat → Prop} {w w' : World} {tb : Nat} {ts : List Tok} (h : TokSt w tb ts) (hc : Chg S w w') (hs : ∀ q, q ≤ tb → ¬ S q) : TokSt w' tb ts := by
  obtain ⟨ao, cap, hb, hT, h1, h2, h3⟩ := h
  refine ⟨ao, cap, hb.chg hc (hs tb (Nat.le_refl _)), ?_, h1, h2, h3⟩
  cases ts with
  | nil => exact ⟨by simp [toksCells], by simp [toksCells]⟩
  | cons t ts =>
    obtain ⟨b, off, rfl, hlt⟩ := h3 (by simp)
    exact SlV.chg hT hc (fun b' off' e _ => by cases e; exact hs b (by omega))
theorem must_any (k : Int) (tx : List UInt8) (nb tb sb : Nat) (s : ByteArray) (ts : List Tok) (w : World) (hP : PBox w tb sb s ts) (hs : s.size ≤ 1000000) (hn : Blk w nb 58 [nextV tb sb]) (hnt : nb ≠ tb) :
    Calls Tryd.prog 28 #[.int .i64 k, .string ⟨tx.toArray⟩, .pointer (some ⟨nb, 0, none⟩)] w (RPost tb w (fun a => .int .i64 a) (mst s.size k tx ts)) := by
  have c0 := hn.cell 0
  simp only [List.getElem?_cons_zero, nextV] at c0
  unfold mst
  cases hx : nx s.size k ts with
  | bad x n =>
    go_enter Tryd.func28, Tryd.ntmps28
    go_wp2_with fail
    refine (nx_is k tb sb s ts _ hP hs hx).mono ?_
    rintro e w1 ⟨rfl, hC⟩
    exact ⟨rfl, rfl, hC⟩
  | ok t r =>
    have c1 : ∀ w', Chg (fun b => b = tb) w w' → w'.cell? ⟨nb, 0, none⟩ = some (nextV tb sb) := fun w' hC => (hn.chg hC hnt).cell 0
    go_enter Tryd.func28, Tryd.ntmps28
    go_wp2_with fail
    refine (nx_is k tb sb s ts _ hP hs hx).mono ?_
    rintro e w1 ⟨rfl, hT, hC⟩
    unfold tokC
    by_cases h : t.t = tx
    · obtain ⟨tk, tt, tn, ta⟩ := t
      subst h
      simp only [if_true]
      go_wp2_with fail
      go_ret
      exact ⟨rfl, hT.below (below_alloc _ _), hC.alloc _⟩
    · simp only [if_neg h]
      have hne : (t.t == tx) = false := beq_eq_false_iff_ne.2 h
      go_wp2_with fail
      exact ⟨rfl, rfl, hC.alloc _⟩
theorem must_is (k : Int) (tx : List UInt8) (nb tb sb : Nat) (s : ByteArray) (ts : List Tok) (w : World) (hP : PBox w tb sb s ts) (hs : s.size ≤ 1000000) (hn : Blk w nb 58 [nextV tb sb]) (hnt : nb ≠ tb) {r : PR Int} (h : mst s.size k tx ts = r) :
    Calls Tryd.prog 28 #[.int .i64 k, .string ⟨tx.toArray⟩, .pointer (some ⟨nb, 0, none⟩)] w (RPost tb w (fun a => .int .i64 a) r) := by
  subst h; exact must_any k tx nb tb sb s ts w hP hs hn hnt
end Go.Proofs.YtbkheiilcfhfpaaDoor
