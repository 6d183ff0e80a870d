/- flow: the parser: sees, take, must, number -/
import Derived.Test.YtogcnmjipfllaaaDoorFloSt
import Derived.Deep.RegionHeld
namespace Go.Proofs.YtogcnmjipfllaaaDoor
open Go.RowKit

def seesB (k : Int) (tx : List UInt8) : List Tok → Bool
  | [] => false
  | t :: _ => decide (t.k = k) && (decide (tx = []) || decide (t.t = tx))
set_option maxHeartbeats 1000000 in
theorem sees_any (pb : Nat) (k : Int) (tx : List UInt8) (p : PT) (ts : List Tok) (w : World) (hP : PB w pb p ts) :
    Calls Tryd.prog 37 #[pT pb, .int .i64 k, .string ⟨tx.toArray⟩] w fun e w' => e = .returned (.bool (seesB k tx ts)) ∧ w = w' := by
  obtain ⟨ao, cap, hb, hT, h1, h2, h3⟩ := hP
  have c0 := hb.cell 0
  simp only [List.getElem?_cons_zero] at c0
  unfold pT
  cases ts with
  | nil =>
    simp only [List.length_nil] at c0
    go_enter Tryd.func37, Tryd.ntmps37
    go_wp2_with fail
    go_ret
    exact ⟨rfl, rfl⟩
  | cons t ts =>
    obtain ⟨b, off, rfl, hlt, a0, a1, a2, a3⟩ := Toks.get hT (i := 0) rfl
    simp only [List.length_cons] at c0 h1
    simp only [Nat.mul_zero, Nat.zero_add, Nat.add_zero] at a0 a1
    have hpos : (0 : Int) < ((ts.length + 1 : Nat) : Int) := by omega
    have hnl : ts.length + 1 ≤ maxLen := by omega
    unfold maxLen at hnl
    generalize ts.length + 1 = n at *
    obtain ⟨tk, tt, tn, ta⟩ := t
    simp only at a0 a1
    by_cases hk : tk = k
    · have hkb : (tk == k) = true := by simpa using hk
      by_cases hx : tx = []
      · have he1 : tx.isEmpty = true := by rw [hx]; rfl
        have hs : seesB k tx (⟨tk, tt, tn, ta⟩ :: ts) = true := by simp [seesB, hk, hx]
        rw [hs]
        subst hx hk
        clear hs
        go_enter Tryd.func37, Tryd.ntmps37
        go_wp2_with fail
        go_ret
        exact ⟨ret_bool (by first | rfl | simp), rfl⟩
      · have he1 : tx.isEmpty = false := by simpa using hx
        by_cases hy : tt = tx
        · have hs : seesB k tx (⟨tk, tt, tn, ta⟩ :: ts) = true := by simp [seesB, hk, hy]
          rw [hs]
          clear hs
          subst hy hk
          have hyb : (tt == tt) = true := beq_self_eq_true _
          go_enter Tryd.func37, Tryd.ntmps37
          go_wp2_with fail
          go_ret
          exact ⟨ret_bool (by first | rfl | simp), rfl⟩
        · have hs : seesB k tx (⟨tk, tt, tn, ta⟩ :: ts) = false := by simp [seesB, hy, hx]
          rw [hs]
          clear hs
          have hyb : (tt == tx) = false := beq_eq_false_iff_ne.2 hy
          subst hk
          go_enter Tryd.func37, Tryd.ntmps37
          go_wp2_with fail
          go_ret
          exact ⟨ret_bool (by first | rfl | simp | simp [hy]), rfl⟩
    · have hs : seesB k tx (⟨tk, tt, tn, ta⟩ :: ts) = false := by simp [seesB, hk]
      rw [hs]
      clear hs
      have hkb : (tk == k) = false := beq_eq_false_iff_ne.2 hk
      go_enter Tryd.func37, Tryd.ntmps37
      go_wp2_with fail
      go_ret
      exact ⟨ret_bool (by first | rfl | simp), rfl⟩
theorem Toks.tail {w : World} {b off : Nat} {t : Tok} {ts : List Tok} (h : Toks w (some ⟨b, off, none⟩) (t :: ts)) : Toks w (some ⟨b, off + 4, none⟩) ts := by
  refine ⟨by have := h.len; simp only [toksCells, List.flatMap_cons, List.length_append] at this ⊢; omega, fun i x hi => ?_⟩
  have h4 : (toksCells (t :: ts))[4 + i]? = some x := by
    simp only [toksCells, List.flatMap_cons] at hi ⊢
    rw [List.getElem?_append_right (by simp [tokCells])]
    simpa [tokCells] using hi
  obtain ⟨b1, off1, e, hb, hx⟩ := h.cell _ _ h4
  cases e
  exact ⟨b, off + 4, rfl, hb, by rw [← hx, Nat.add_assoc]⟩
theorem Chg.ofNew {S : Nat → Prop} {w w' : World} (h : Chg (fun k => S k ∨ w.heap.size ≤ k) w w') : Chg S w w' := h.mono (fun k hk hs => hs.resolve_right (by omega))
theorem Chg.ofBelow {S : Nat → Prop} {w w' : World} (h : Below w.heap.size w w') : Chg S w w' := (Chg.refl S w).below h (fun k h1 h2 => by omega)
theorem cell2 {w0 : World} {a : Addr} {v : Value} (h : w0.cell? a = some v) : (∀ o : Obj, (w0.alloc o).cell? a = some v) ∧ (∀ o o' : Obj, ((w0.alloc o).alloc o').cell? a = some v) := by
  have h1 : ∀ (u : World) (o : Obj), u.cell? a = some v → (u.alloc o).cell? a = some v := fun u o hu => (World.cell?_alloc_some u a o (by rw [hu]; rfl)).trans hu
  exact ⟨fun o => h1 _ o h, fun o o' => h1 _ o' (h1 _ o h)⟩
set_option maxHeartbeats 2000000 in
theorem take_any (pb : Nat) (p : PT) (t : Tok) (ts : List Tok) (w : World) (hP : PB w pb p (t :: ts)) :
    Calls Tryd.prog 41 #[pT pb] w fun e w' => e = .returned (tokC t) ∧ PB w' pb p ts ∧ Chg (fun b => b = pb) w w' := by
  obtain ⟨ao, cap, hb, hT, hl, hc, hq⟩ := hP
  simp only [List.length_cons] at hb hl
  obtain ⟨b, off, rfl, hlt, a0, a1, a2, a3⟩ := hT.get (i := 0) rfl
  have c0 : ∀ o : Obj, (w.alloc o).cell? ⟨pb, 0, none⟩ = some (.slice (some ⟨b, off, none⟩) ((ts.length + 1 : Nat)) cap) := fun o => (hb.alloc o).cell 0
  have c0' : ∀ o o' : Obj, ((w.alloc o).alloc o').cell? ⟨pb, 0, none⟩ = some (.slice (some ⟨b, off, none⟩) ((ts.length + 1 : Nat)) cap) := fun o o' => ((hb.alloc o).alloc o').cell 0
  have f0 : ∀ o o' : Obj, ((w.alloc o).alloc o').frozen? ⟨pb, 0, none⟩ = false := fun o o' => ((hb.alloc o).alloc o').free 0
  have d0 := (cell2 a0).1
  have d1 := (cell2 a1).1
  have d2 := (cell2 a2).1
  have d3 := (cell2 a3).1
  simp only [Nat.mul_zero, Nat.zero_add, Nat.add_zero] at d0 d1 d2 d3
  obtain ⟨tk, tt, tn, ta⟩ := t
  have hbt' : b < pb := by obtain ⟨b', off', e, h⟩ := hq (by simp); cases e; exact h
  have hbt : b ≠ pb := by omega
  have HBT : True ∧ b < pb := ⟨trivial, hbt'⟩
  clear hq hbt'
  have hne : w.heap.size ≠ pb := by have := hb.lt; omega
  have hne2 : w.heap.size + 1 ≠ pb := by have := hb.lt; omega
  have hz1 : 1 ≤ ts.length + 1 := by omega
  clear hlt
  unfold pT
  go_enter Tryd.func41, Tryd.ntmps41
  go_wp2_with fail
  all_goals
    (try simp only [Exit.inBlock, Exit.then])
    refine bodyPost_ret (results_cell_row rfl _ _ w.heap.size 82 #[.int .i64 tk, .string { data := tt.toArray }, .int .i64 tn, .int .i64 ta] (0, 0) _ rfl ((((((((Blk.new w _ _).alloc _).other _ hne _).set 0 _).set 1 _).set 2 _).set 3 _)) Tryd.underlying82 rfl (by kernel_rfl)) rfl ?_
    refine ⟨rfl, ?_, ?_⟩
  · have ht0 : ts = [] := List.eq_nil_of_length_eq_zero (by omega)
    exact ⟨_, _, ((((((hb.alloc _).alloc _).set 0 _).other _ hne.symm _).other _ hne.symm _).other _ hne.symm _).other _ hne.symm _, by subst ht0; exact ⟨by simp [toksCells], by simp [toksCells]⟩, by omega, by omega, fun h => absurd ht0 h⟩
  · exact Chg.ofNew ((((((((Chg.refl _ w).alloc _).alloc _).set (.inl rfl) _).set (.inr (Nat.le_refl _)) _).set (.inr (Nat.le_refl _)) _).set (.inr (Nat.le_refl _)) _).set (.inr (Nat.le_refl _)) _)
  · refine ⟨_, _, ((((((hb.alloc _).alloc _).set 0 _).other _ hne.symm _).other _ hne.symm _).other _ hne.symm _).other _ hne.symm _, ?_, by omega, by omega, fun _ => ⟨b, off + 4, rfl, by obtain ⟨_, h⟩ := HBT; exact h⟩⟩
    refine SlV.chg (S := fun k => k = pb) hT.tail ?_ (fun b' off' e _ => by cases e; exact hbt)
    exact Chg.ofNew ((((((((Chg.refl _ w).alloc _).alloc _).set (.inl rfl) _).set (.inr (Nat.le_refl _)) _).set (.inr (Nat.le_refl _)) _).set (.inr (Nat.le_refl _)) _).set (.inr (Nat.le_refl _)) _)
  · exact Chg.ofNew ((((((((Chg.refl _ w).alloc _).alloc _).set (.inl rfl) _).set (.inr (Nat.le_refl _)) _).set (.inr (Nat.le_refl _)) _).set (.inr (Nat.le_refl _)) _).set (.inr (Nat.le_refl _)) _)
end Go.Proofs.YtogcnmjipfllaaaDoor
