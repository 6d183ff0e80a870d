/- weather: Parse's closures: next, must, the one that recovers -/
import Derived.Test.YtbkheiilcfhfpaaDoorWeaForm
import Derived.Test.YtbkheiilcfhfpaaDoorLexTok
import Derived.Recover
import Derived.WalkLawsBesides
namespace Go.Proofs.YtbkheiilcfhfpaaDoor
open Go.RowKit

/-- the captured tokens: what is left of them -/
def TokSt (w : World) (tb : Nat) (ts : List Tok) : Prop := ∃ ao cap, Blk w tb 46 [.slice ao ts.length cap] ∧ Toks w ao ts ∧ ts.length ≤ cap ∧ cap ≤ maxLen ∧ (ts ≠ [] → ∃ b off, ao = some ⟨b, off, none⟩ ∧ b < tb)
theorem tok_world (w : World) : ∃ w0 : World, (w.alloc (.cells #[.int .i64 0, .string { data := #[] }, .int .i64 0, .int .i64 0] 50)) = w0 ∧ Blk w0 w.heap.size 50 [.int .i64 0, .string { data := #[] }, .int .i64 0, .int .i64 0] ∧ Below w.heap.size w w0 :=
  ⟨_, rfl, Blk.new w _ _, below_alloc w _⟩
def tokC (t : Tok) : Value := .agg #[.int .i64 t.k, .string ⟨t.t.toArray⟩, .int .i64 t.n, .int .i64 t.at_]
def failV (e n : Int) : Value := .iface 56 (.agg #[.int .i64 e, .int .i64 n])
def panicE (e n : Int) : Ending := .panicked [{ v := failV e n, recovered := false }]
/-- the boxes that next reads and writes: the tokens, the text -/
structure PBox (w : World) (tb sb : Nat) (s : ByteArray) (ts : List Tok) : Prop where
  toks : TokSt w tb ts
  text : Blk w sb 9 [.string s]
  ne : sb ≠ tb
theorem nx_nil (k : Int) (tb sb : Nat) (s : ByteArray) (w : World) (hP : PBox w tb sb s []) (hs : s.size ≤ 1000000) :
    Calls Tryd.prog 27 #[.int .i64 k, .pointer (some ⟨tb, 0, none⟩), .pointer (some ⟨sb, 0, none⟩)] w fun e w' => e = panicE 6 s.size ∧ Below w.heap.size w w' := by
  obtain ⟨⟨ao, cap, hb, -, -, -, -⟩, hsb, -⟩ := hP
  simp only [List.length_nil] at hb
  have c0 : ∀ o : Obj, (w.alloc o).cell? ⟨tb, 0, none⟩ = some (.slice ao 0 cap) := fun o => (hb.alloc o).cell 0
  have c1 : ∀ o : Obj, (w.alloc o).cell? ⟨sb, 0, none⟩ = some (.string s) := fun o => (hsb.alloc o).cell 0
  go_enter Tryd.func27, Tryd.ntmps27
  go_wp2_with fail
  exact ⟨rfl, rfl, below_alloc w _⟩
theorem Toks.tail {w : World} {b off : Nat} {t : Tok} {ts : List Tok} (h : Toks w (some ⟨b, off, none⟩) (t :: ts)) : Toks w (some ⟨b, off + 4, none⟩) ts := by
  refine ⟨by have := h.len; simp only [toksCells, List.flatMap_cons, List.length_append] at this ⊢; omega, fun i x hi => ?_⟩
  have h4 : (toksCells (t :: ts))[4 + i]? = some x := by
    simp only [toksCells, List.flatMap_cons] at hi ⊢
    rw [List.getElem?_append_right (by simp [tokCells])]
    simpa [tokCells] using hi
  obtain ⟨b1, off1, e, hb, hx⟩ := h.cell _ _ h4
  cases e
  exact ⟨b, off + 4, rfl, hb, by rw [← hx, Nat.add_assoc]⟩
theorem Chg.ofNew {S : Nat → Prop} {w w' : World} (h : Chg (fun k => S k ∨ w.heap.size ≤ k) w w') : Chg S w w' := h.mono (fun k hk hs => hs.resolve_right (by omega))
theorem nx_cons (k : Int) (tb sb : Nat) (s : ByteArray) (t : Tok) (ts : List Tok) (w : World) (hP : PBox w tb sb s (t :: ts)) (hs : s.size ≤ 1000000) :
    Calls Tryd.prog 27 #[.int .i64 k, .pointer (some ⟨tb, 0, none⟩), .pointer (some ⟨sb, 0, none⟩)] w fun e w' => 
      if t.k = k then e = .returned (tokC t) ∧ TokSt w' tb ts ∧ Chg (fun b => b = tb) w w' else e = panicE 5 t.at_ ∧ Below w.heap.size w w' := by
  obtain ⟨⟨ao, cap, hb, hT, hl, hc, hq⟩, hsb, -⟩ := hP
  simp only [List.length_cons] at hb hl
  obtain ⟨b, off, rfl, hlt, a0, a1, a2, a3⟩ := hT.get (i := 0) rfl
  have c0 : ∀ o : Obj, (w.alloc o).cell? ⟨tb, 0, none⟩ = some (.slice (some ⟨b, off, none⟩) ((ts.length + 1 : Nat)) cap) := fun o => (hb.alloc o).cell 0
  have c0' : ∀ o o' : Obj, ((w.alloc o).alloc o').cell? ⟨tb, 0, none⟩ = some (.slice (some ⟨b, off, none⟩) ((ts.length + 1 : Nat)) cap) := fun o o' => ((hb.alloc o).alloc o').cell 0
  have f0 : ∀ o o' : Obj, ((w.alloc o).alloc o').frozen? ⟨tb, 0, none⟩ = false := fun o o' => ((hb.alloc o).alloc o').free 0
  have d0 := (cell2 a0).1
  have d1 := (cell2 a1).1
  have d2 := (cell2 a2).1
  have d3 := (cell2 a3).1
  simp only [Nat.mul_zero, Nat.zero_add, Nat.add_zero] at d0 d1 d2 d3
  obtain ⟨tk, tt, tn, ta⟩ := t
  have hbt' : b < tb := by obtain ⟨b', off', e, h⟩ := hq (by simp); cases e; exact h
  have hbt : b ≠ tb := by omega
  have HBT : True ∧ b < tb := ⟨trivial, hbt'⟩
  clear hq hbt'
  have hne : w.heap.size ≠ tb := by have := hb.lt; omega
  have hne2 : w.heap.size + 1 ≠ tb := by have := hb.lt; omega
  have hz1 : 1 ≤ ts.length + 1 := by omega
  clear hlt
  by_cases hk : tk = k
  · subst hk
    simp only [if_true]
    go_enter Tryd.func27, Tryd.ntmps27
    go_wp2_with fail
    · have ht0 : ts = [] := List.eq_nil_of_length_eq_zero (by omega)
      (try simp only [Exit.inBlock, Exit.then])  ;refine bodyPost_ret (results_cell_row rfl _ _ w.heap.size 50 #[.int .i64 tk, .string { data := tt.toArray }, .int .i64 tn, .int .i64 ta] (0, 0) _ rfl ((((((((Blk.new w _ _).alloc _).other _ hne _).set 0 _).set 1 _).set 2 _).set 3 _)) Tryd.underlying50 rfl (by kernel_rfl)) rfl ?_  ;refine ⟨rfl, ?_, ?_⟩
      · exact ⟨_, _, ((((((hb.alloc _).alloc _).set 0 _).other _ hne.symm _).other _ hne.symm _).other _ hne.symm _).other _ hne.symm _, by subst ht0; exact ⟨by simp [toksCells], by simp [toksCells]⟩, by omega, by omega, fun h => absurd ht0 h⟩
      · exact Chg.ofNew ((((((((Chg.refl _ w).alloc _).alloc _).set (.inl rfl) _).set (.inr (Nat.le_refl _)) _).set (.inr (Nat.le_refl _)) _).set (.inr (Nat.le_refl _)) _).set (.inr (Nat.le_refl _)) _)
    · (try simp only [Exit.inBlock, Exit.then])  ;refine bodyPost_ret (results_cell_row rfl _ _ w.heap.size 50 #[.int .i64 tk, .string { data := tt.toArray }, .int .i64 tn, .int .i64 ta] (0, 0) _ rfl ((((((((Blk.new w _ _).alloc _).other _ hne _).set 0 _).set 1 _).set 2 _).set 3 _)) Tryd.underlying50 rfl (by kernel_rfl)) rfl ?_  ;refine ⟨rfl, ?_, ?_⟩
      · refine ⟨_, _, ((((((hb.alloc _).alloc _).set 0 _).other _ hne.symm _).other _ hne.symm _).other _ hne.symm _).other _ hne.symm _, ?_, by omega, by omega, fun _ => ⟨b, off + 4, rfl, by obtain ⟨_, h⟩ := HBT; exact h⟩⟩
        refine SlV.chg (S := fun k => k = tb) hT.tail ?_ (fun b' off' e _ => by cases e; exact hbt)
        exact Chg.ofNew ((((((((Chg.refl _ w).alloc _).alloc _).set (.inl rfl) _).set (.inr (Nat.le_refl _)) _).set (.inr (Nat.le_refl _)) _).set (.inr (Nat.le_refl _)) _).set (.inr (Nat.le_refl _)) _)
      · exact Chg.ofNew ((((((((Chg.refl _ w).alloc _).alloc _).set (.inl rfl) _).set (.inr (Nat.le_refl _)) _).set (.inr (Nat.le_refl _)) _).set (.inr (Nat.le_refl _)) _).set (.inr (Nat.le_refl _)) _)
  · simp only [if_neg hk]
    go_enter Tryd.func27, Tryd.ntmps27
    go_wp2_with fail
    exact ⟨rfl, rfl, (below_alloc w _).alloc (by rw [World.size_alloc]; omega) _⟩
end Go.Proofs.YtbkheiilcfhfpaaDoor
