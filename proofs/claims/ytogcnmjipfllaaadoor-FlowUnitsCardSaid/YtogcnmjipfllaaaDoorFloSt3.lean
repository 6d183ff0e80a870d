/- flow: the parser: must, number -/
import Derived.Test.YtogcnmjipfllaaaDoorFloSt2
namespace Go.Proofs.YtogcnmjipfllaaaDoor
open Go.RowKit

/-- what a reader hands back: a result and what is left, or an error with its offset -/
inductive PR (α : Type) where
  | ok (a : α) (r : List Tok)
  | bad (e n : Int)
def RPost {α : Type} (pb : Nat) (p : PT) (w : World) (v : α → Value) (r : PR α) (e : Ending) (w' : World) : Prop :=
  match r with
  | .ok t r => e = .returned (v t) ∧ PB w' pb p r ∧ Chg (fun b => b = pb) w w'
  | .bad x n => e = panicE x n ∧ Chg (fun b => b = pb) w w'
def mustF (en : Nat) (k : Int) (tx : List UInt8) : List Tok → PR Tok
  | [] => .bad 6 en
  | t :: r => if seesB k tx (t :: r) = true then .ok t r else .bad 5 t.at_
theorem sees_is (pb : Nat) (k : Int) (tx : List UInt8) (p : PT) (ts : List Tok) (w : World) (hP : PB w pb p ts) {b : Bool} (h : seesB k tx ts = b) :
    Calls Tryd.prog 37 #[pT pb, .int .i64 k, .string ⟨tx.toArray⟩] w fun e w' => e = .returned (.bool b) ∧ w = w' := by
  subst h; exact sees_any pb k tx p ts w hP
theorem fail_is (pb : Nat) (e : Int) (p : PT) (ts : List Tok) (w : World) (hP : PB w pb p ts) (hl : ts.length ≤ 1000000) {x n : Int} (h : failAt p.en e ts = (x, n)) :
    Calls Tryd.prog 40 #[pT pb, .int .i64 e] w fun e' w' => e' = panicE x n ∧ w' = w := by
  have := fail_any pb e p ts w hP hl
  rw [h] at this
  exact this
set_option maxHeartbeats 2000000 in
theorem must_any (pb : Nat) (k : Int) (tx : List UInt8) (p : PT) (ts : List Tok) (w : World) (hP : PB w pb p ts) (hl : ts.length ≤ 1000000) :
    Calls Tryd.prog 35 #[pT pb, .int .i64 k, .string ⟨tx.toArray⟩] w (RPost pb p w tokC (mustF p.en k tx ts)) := by
  have hPa := hP.below (below_alloc w (.cells #[.int .i64 0, .string { data := #[] }, .int .i64 0, .int .i64 0] 82))
  have hpl := hP.lt
  have hbx := Blk.new w #[.int .i64 0, .string { data := #[] }, .int .i64 0, .int .i64 0] 82
  have hC0 : Chg (fun b => b = pb) w (w.alloc (.cells #[.int .i64 0, .string { data := #[] }, .int .i64 0, .int .i64 0] 82)) := Chg.ofBelow (below_alloc _ _)
  cases hs : seesB k tx ts with
  | false =>
    obtain ⟨⟨x, n⟩, hf⟩ : ∃ r, failAt p.en 5 ts = r := ⟨_, rfl⟩
    have hm : mustF p.en k tx ts = .bad x n := by
      cases ts with
      | nil => unfold failAt at hf; cases hf; rfl
      | cons t r => unfold failAt at hf; cases hf; exact if_neg (by rw [hs]; simp)
    rw [hm]
    unfold pT
    go_enter Tryd.func35, Tryd.ntmps35
    go_wp2_with fail
    refine (sees_is pb k tx p ts _ hPa hs).mono ?_
    rintro e w1 ⟨rfl, rfl⟩
    go_wp2_with fail
    refine (fail_is pb 5 p ts _ hPa hl hf).mono ?_
    rintro e w1 ⟨rfl, rfl⟩
    exact ⟨rfl, rfl, hC0⟩
  | true =>
    obtain ⟨t, r, rfl⟩ : ∃ t r, ts = t :: r := by
      cases ts with
      | nil => cases hs
      | cons t r => exact ⟨t, r, rfl⟩
    have hm : mustF p.en k tx (t :: r) = .ok t r := if_pos hs
    rw [hm]
    unfold pT
    go_enter Tryd.func35, Tryd.ntmps35
    go_wp2_with fail
    refine (sees_is pb k tx p _ _ hPa hs).mono ?_
    rintro e w1 ⟨rfl, rfl⟩
    go_wp2_with fail
    refine (take_any pb p t r _ hPa).mono ?_
    rintro e w2 ⟨rfl, hP2, hC2⟩
    have hne : w.heap.size ≠ pb := by omega
    have hbx2 := hbx.chg hC2 hne
    have hC3 := hC0.trans hC2
    clear hPa hbx hC0 hC2
    have b0 := hbx2.cell 0
    have b1 := hbx2.cell 1
    have b2 := hbx2.cell 2
    have b3 := hbx2.cell 3
    have f0 := hbx2.free 0
    have f1 := hbx2.free 1
    have f2 := hbx2.free 2
    have f3 := hbx2.free 3
    simp only [List.getElem?_cons_zero, List.getElem?_cons_succ] at b0 b1 b2 b3
    have hlt2 := hbx2.lt
    obtain ⟨tk, tt, tn, ta⟩ := t
    unfold tokC
    go_wp2_with fail
    (try simp only [Exit.inBlock, Exit.then])
    refine bodyPost_ret (results_cell_row rfl _ _ w.heap.size 82 #[.int .i64 tk, .string { data := tt.toArray }, .int .i64 tn, .int .i64 ta] (0, 0) _ rfl ((((hbx2.set 0 _).set 1 _).set 2 _).set 3 _) Tryd.underlying82 rfl (by kernel_rfl)) rfl ?_
    have hC4 : Chg (fun k => k = pb ∨ w.heap.size ≤ k) w (((((w2.setCell ⟨w.heap.size, 0, none⟩ (.int .i64 tk)).setCell ⟨w.heap.size, 1, none⟩ (.string ⟨tt.toArray⟩)).setCell ⟨w.heap.size, 2, none⟩ (.int .i64 tn)).setCell ⟨w.heap.size, 3, none⟩ (.int .i64 ta))) :=
      ((((hC3.mono (fun k _ h => .inl h)).set (p := ⟨w.heap.size, 0, none⟩) (.inr (Nat.le_refl _)) _).set (p := ⟨w.heap.size, 1, none⟩) (.inr (Nat.le_refl _)) _).set (p := ⟨w.heap.size, 2, none⟩) (.inr (Nat.le_refl _)) _).set (p := ⟨w.heap.size, 3, none⟩) (.inr (Nat.le_refl _)) _
    refine ⟨rfl, ?_, Chg.ofNew hC4⟩
    exact PB.chg (S := fun q => q = w.heap.size) hP2 ((((((Chg.refl (fun q => q = w.heap.size) w2).set (p := ⟨w.heap.size, 0, none⟩) rfl _).set (p := ⟨w.heap.size, 1, none⟩) rfl _).set (p := ⟨w.heap.size, 2, none⟩) rfl _).set (p := ⟨w.heap.size, 3, none⟩) rfl _)) (fun q hq h => by omega)
end Go.Proofs.YtogcnmjipfllaaaDoor
