/- calendar.Next -/
import Derived.Test.YtlikkplipofghaaDoorCalFrom
import Derived.Laws.EntriesVeiled
namespace Go.Proofs.YtlikkplipofghaaDoor
open Go.RowKit Go.Shelf
attribute [local go_sem] Oper.semAt_some

def reachB (x a : Int) : Bool := decide ((sid x + 5760 - a) % 5760 < 60)

theorem blk_turn {W W' : World} {row : Option Nat} {b : Nat} {T : TypeId} {L : List Value} (h : Blk W b T L) (hg : W.grownBy W' row) (hr : ∀ r, row = some r → ∃ o : Obj, W.heap[r]? = some o ∧ o.isCells = false) : Blk W' b T L :=
  h.grown hg (fun e => by obtain ⟨o, ho, hc⟩ := hr b e.symm; rw [show W.heap[b]? = _ from h] at ho; cases ho; cases hc)
theorem keeps_of_chg {S : Nat → Prop} {W W' : World} (h : Chg S W W') (hs : ∀ k, S k → ∃ o : Obj, W.heap[k]? = some o ∧ o.isCells = true) : KeepsOthers W W' :=
  ⟨h.size, fun k o hk ho => (h.block k (Array.getElem?_eq_some_iff.1 hk).1 (fun s => by obtain ⟨o', h', c'⟩ := hs k s; rw [hk] at h'; cases h'; rw [ho] at c'; cases c')).trans hk⟩
theorem blk_isCells {w : World} {b : Nat} {T : TypeId} {L : List Value} (h : Blk w b T L) : ∃ o : Obj, w.heap[b]? = some o ∧ o.isCells = true := ⟨_, h, rfl⟩

/-- the boxes of Next: the angle and both results -/
def NextI (a : Int) (w : World) (B1 B2 B3 : Nat) (pre : List Mom) (W : World) : Prop :=
  (∀ y ∈ pre, reachB y.1 a = false) ∧ Blk W B1 3 [.int .i64 a] ∧ Blk W B2 3 [.int .i64 0] ∧ Blk W B3 23 [.int .i64 0] ∧ Below w.heap.size w W
def NextX (a : Int) (w : World) (B2 B3 : Nat) (pre : List Mom) (W : World) : Prop :=
  ∃ ini x, pre = ini ++ [x] ∧ (∀ y ∈ ini, reachB y.1 a = false) ∧ reachB x.1 a = true ∧ Blk W B2 3 [.int .i64 x.1] ∧ Blk W B3 23 [.int .i64 0] ∧ Below w.heap.size w W

/-- what Next finds -/
def NextR (m a v e : Int) : Prop := (e = 0 ∧ ∃ k : Nat, v = m + (k : Int) ∧ v ≤ 38399 ∧ reachB v a = true ∧ ∀ j : Nat, j < k → reachB (m + (j : Int)) a = false) ∨
  (e = 9 ∧ v = 0 ∧ ∀ j : Nat, m + (j : Int) ≤ 38399 → reachB (m + (j : Int)) a = false)

theorem results_cell2 {P : Program} {fn : Func} {p q : Tmp} {T U : TypeId} (h : fn.results = #[.cell p T, .cell q U]) (tmps : Array Value) (w : World) (b c : Nat) (x y : Value)
    (hp : tmps[p]?.getD undef = .pointer (some ⟨b, 0, none⟩)) (hq : tmps[q]?.getD undef = .pointer (some ⟨c, 0, none⟩)) (h1 : (loadVar T ⟨b, 0, none⟩).run P w = .ok x w) (h2 : (loadVar U ⟨c, 0, none⟩).run P w = .ok y w) :
    (results fn tmps).run P w = .ok (.tuple #[x, y]) w := by
  simp only [results, h]
  simp [Sem.run_bind, Result.andThen, hp, hq, asAddr, h1, h2]

set_option maxHeartbeats 2000000 in
set_option maxRecDepth 100000 in
theorem next_yes (m a : Int) (w : World) (m0 : 0 ≤ m) (m1 : m ≤ 38399) (a0 : 0 ≤ a) (a1 : a < 5760) :
    Calls Tryd.prog 18 #[.int .i64 m, .int .i64 a] w fun e w' => ∃ v er, e = .returned (.tuple #[.int .i64 v, .int .i64 er]) ∧ NextR m a v er ∧ Below w.heap.size w w' := by
  have HW1 := hid (fun w => (callsIn_wide (n := 7)).2 (within_yes m 38400 w ⟨m0, by omega⟩))
  have HW2 := hid (fun w => (callsIn_wide (n := 7)).2 (within_yes a 5760 w ⟨a0, a1⟩))
  have HFR := hid (fun w => (callsIn_wide (n := 7)).2 (from_any m w))
  refine (callsIn_wide (n := 8)).1 ?_
  refine callsIn_of_wp_marks Tryd.func18 rfl trivial ?_ rfl
  simp only [Tryd.ntmps18, List.size_toArray, List.length_cons, List.length_nil, Nat.reduceAdd, Nat.reduceSub, Array.replicate_succ, Array.replicate_zero, List.push_toArray, List.append_toArray, List.nil_append, List.cons_append]
  gi_wp2_with fail
  obtain ⟨X, hX⟩ : ∃ X : World, X = (((w.alloc (.cells #[.int .i64 a] 3)).alloc (.cells #[.int .i64 0] 3)).alloc (.cells #[.int .i64 0] 23)) := ⟨_, rfl⟩
  have b0 : Blk X w.heap.size 3 [.int .i64 a] := by rw [hX]; exact ((Blk.new w _ _).alloc _).alloc _
  have b1 : Blk X (w.heap.size + 1) 3 [.int .i64 0] := by
    rw [hX]; have := Blk.new (w.alloc (.cells #[.int .i64 a] 3)) #[.int .i64 0] 3; rw [World.size_alloc] at this; exact this.alloc _
  have b2 : Blk X (w.heap.size + 1 + 1) 23 [.int .i64 0] := by
    rw [hX]; have := Blk.new ((w.alloc (.cells #[.int .i64 a] 3)).alloc (.cells #[.int .i64 0] 3)) #[.int .i64 0] 23; simp only [World.size_alloc] at this; exact this
  have hBX : Below w.heap.size w X := by rw [hX]; exact (((Below.refl _ w).alloc (Nat.le_refl _) _).alloc (by simp) _).alloc (by simp <;> omega) _
  rw [← hX]
  clear hX
  generalize hg1 : w.heap.size + 1 = B1 at *
  generalize hg2 : B1 + 1 = B2 at *
  have HB := hid (show B1 = w.heap.size + 1 ∧ B2 = B1 + 1 from ⟨hg1.symm, hg2.symm⟩)
  clear hg1 hg2
  have c0 := b0.cell 0
  refine ⟨trivial, ?_⟩
  refine (HW1.out _).mono ?_
  rintro e w' ⟨rfl, rfl⟩
  gi_wp2_with fail
  refine ⟨trivial, ?_⟩
  refine (HW2.out _).mono ?_
  rintro e w' ⟨rfl, rfl⟩
  gi_wp2_with fail
  refine ⟨trivial, ?_⟩
  refine (HFR.out _).mono ?_
  rintro e w5 ⟨gm, rfl, hgm, hbm, hB5⟩
  have l2 := b2.lt
  have c1 := b0.below hB5 b0.lt
  have c2 := b1.below hB5 b1.lt
  have c3 := b2.below hB5 b2.lt
  have hBw : Below w.heap.size w w5 := hBX.trans (hB5.mono hBX.size)
  have HS5 := hid hB5.size
  have hgl := hbm.lt
  clear b0 b1 b2 hBX hB5 c0
  gi_wp2_with fail
  refine wpIn_rangeFunc_box rfl (by omega) (gf := 33) (gm := gm) hgl (lb := #[.pointer (some ⟨gm, 0, none⟩)]) rfl trivial (enters_of Tryd.func33 (by kernel_rfl) rfl)
    (from1_box m m0 m1 gm w5 7 (by omega) hbm) Keep1.t ?hKb (fun _ => rfl) (NextI a w w.heap.size B1 B2) (NextX a w B1 B2) ?hI ?hIg ?hIx ?h0 ?act ?assign ?body ?done ?stop
  case assign =>
    intro l x W K hK
    gi_wp2
    exact hK
  case hKb =>
    intro W l o o' hl _ _ _
    exact World.putObj_heap_other (by omega)
  case hI =>
    rintro pre W W' row ⟨i0, i1, i2, i3, i4⟩ hg hr
    have hr' : ∀ r, row = some r → ∃ o : Obj, W.heap[r]? = some o ∧ o.isCells = false := fun r e => (hr r e).2
    exact ⟨i0, blk_turn i1 hg hr', blk_turn i2 hg hr', blk_turn i3 hg hr', i4.grown hg i4.size (fun k e => by have := (hr k e).1; have := hBw.size; omega)⟩
  case hIg =>
    rintro pre W v ⟨i0, i1, i2, i3, i4⟩
    have := HB.out
    exact ⟨i0, i1.other _ (by show w.heap.size ≠ gm; omega) v, i2.other _ (by show B1 ≠ gm; omega) v, i3.other _ (by show B2 ≠ gm; omega) v, i4.setCell (p := ⟨gm, 0, none⟩) (by show w.heap.size ≤ gm; omega) v⟩
  case hIx =>
    rintro pre W W' row ⟨ini, x, e, i0, i1, i2, i3, i4⟩ hg hr
    have hr' : ∀ r, row = some r → ∃ o : Obj, W.heap[r]? = some o ∧ o.isCells = false := fun r e => (hr r e).2
    exact ⟨ini, x, e, i0, i1, blk_turn i2 hg hr', blk_turn i3 hg hr', i4.grown hg i4.size (fun k e => by have := (hr k e).1; have := hBw.size; omega)⟩
  case h0 => exact ⟨by simp, c1, c2, c3, hBw⟩
  case body =>
    rintro l pre x W ⟨i0, i1, i2, i3, i4⟩ hlen
    have k0 := i1.cell 0
    have f2 := i2.free 0
    have f3 := i3.free 0
    have k2 := i2.cell 0
    have k3 := i3.cell 0
    have q1 : w.heap.size < B1 := by have := HB.out; omega
    have q2 : B1 < B2 := by have := HB.out; omega
    obtain ⟨x0, x1⟩ := x.2
    obtain ⟨xv, hxv⟩ : ∃ xv, x.1 = xv := ⟨_, rfl⟩
    have hrb : reachB x.1 a = decide ((sid xv + 5760 - a) % 5760 < 60) := by rw [hxv]; rfl
    have HI0 := hid i0
    have HXV := hid hxv
    rw [hxv] at x0 x1
    have hsd := fun w => CallsIn.inRound l ((callsIn_wide (n := 5)).2 (sidereal_yes xv w x0 x1))
    obtain ⟨s0, s1⟩ := sid_bd xv
    generalize sid xv = s at *
    have HSD := hid hsd
    have HRB := hid hrb
    clear hsd hrb i0
    rw [hxv]
    clear hxv
    by_cases hlt : (s + 5760 - a) % 5760 < 60
    · gi_wp2_with fail
      refine ⟨trivial, ?_⟩
      refine (HSD.out _).mono ?_
      rintro e w' ⟨rfl, rfl⟩
      gi_wp2_with fail
      have jc : Chg (fun k => k = B1 ∨ k = B2) W ((W.setCell ⟨B1, 0, none⟩ (.int .i64 xv)).setCell ⟨B2, 0, none⟩ (.int .i64 0)) := ((Chg.refl _ W).set (p := ⟨B1, 0, none⟩) (.inl rfl) _).set (p := ⟨B2, 0, none⟩) (.inr rfl) _
      have hS : ∀ k, (k = B1 ∨ k = B2) → ∃ o : Obj, W.heap[k]? = some o ∧ o.isCells = true := by
        rintro k (rfl | rfl)
        · exact blk_isCells i2
        · exact blk_isCells i3
      refine ⟨keeps_of_chg jc hS, rfl, pre, x, rfl, HI0.out, ?_, ?_, ?_, ?_⟩
      · rw [HRB.out]; simpa using hlt
      · rw [HXV.out]; exact (i2.set 0 _).other _ (by show B1 ≠ B2; omega) _
      · exact (i3.other _ (by show B2 ≠ B1; omega) _).set 0 _
      · exact i4.trans (jc.toBelow i4.size (fun k e => by omega))
    · gi_wp2_with fail
      refine ⟨trivial, ?_⟩
      refine (HSD.out _).mono ?_
      rintro e w' ⟨rfl, rfl⟩
      gi_wp2_with fail
      refine ⟨KeepsOthers.refl _, rfl, ?_, i1, i2, i3, i4⟩
      intro y hy
      rcases List.mem_append.1 hy with hy | hy
      · exact HI0.out y hy
      · simp at hy
        rw [hy, HRB.out]
        simpa using hlt
  case done =>
    rintro D xs W hD ⟨k, hk, rfl⟩ ⟨i0, i1, i2, i3, i4⟩ hK
    have k2 := i2.cell 0
    have k3 := i3.cell 0
    have f2 := i2.free 0
    have f3 := i3.free 0
    have HI0 := hid i0
    have HKK := hid hk
    have q1 : w.heap.size < B1 := by have := HB.out; omega
    have q2 : B1 < B2 := by have := HB.out; omega
    clear i0 hk
    gi_wp2_with fail
    have jc : Chg (fun k => k = B1 ∨ k = B2) W ((W.setCell ⟨B1, 0, none⟩ (.int .i64 0)).setCell ⟨B2, 0, none⟩ (.int .i64 9)) := ((Chg.refl _ W).set (p := ⟨B1, 0, none⟩) (.inl rfl) _).set (p := ⟨B2, 0, none⟩) (.inr rfl) _
    have j2 : Blk ((W.setCell ⟨B1, 0, none⟩ (.int .i64 0)).setCell ⟨B2, 0, none⟩ (.int .i64 9)) B1 3 [.int .i64 0] := (i2.set 0 _).other _ (by show B1 ≠ B2; omega) _
    have j3 : Blk ((W.setCell ⟨B1, 0, none⟩ (.int .i64 0)).setCell ⟨B2, 0, none⟩ (.int .i64 9)) B2 23 [.int .i64 9] := (i3.other _ (by show B2 ≠ B1; omega) _).set 0 _
    have hS : ∀ k, (k = B1 ∨ k = B2) → ∃ o : Obj, W.heap[k]? = some o ∧ o.isCells = true := by
      rintro k (rfl | rfl)
      · exact blk_isCells i2
      · exact blk_isCells i3
    have j4 := i4.trans (jc.toBelow i4.size (fun k e => by omega))
    generalize (W.setCell ⟨B1, 0, none⟩ (.int .i64 0)).setCell ⟨B2, 0, none⟩ (.int .i64 9) = W' at *
    have hK' := (keeps_of_chg jc hS).same D _ hK rfl
    refine ⟨by simp, .inl ⟨_, _, rfl, run_takeDeferred hK', ?_⟩⟩
    have j2' := blk_turn j2 (grownBy_putObj' W' D (.deferred none)) (fun r e => by cases e; exact ⟨_, hK', rfl⟩)
    have j3' := blk_turn j3 (grownBy_putObj' W' D (.deferred none)) (fun r e => by cases e; exact ⟨_, hK', rfl⟩)
    have l2 := j2'.cell 0
    have l3 := j3'.cell 0
    refine ⟨_, results_cell2 rfl _ _ B1 B2 (.int .i64 0) (.int .i64 9) rfl rfl ?_ ?_, ?_⟩
    · simp [go_sem, l2]
    · simp [go_sem, l3]
    · refine ⟨0, 9, rfl, .inr ⟨rfl, rfl, fun j hj => ?_⟩, j4.trans (belowK_b (w := w) (Nat.le_refl _) W' D _ _ (by have := hBw.size; omega) hK' rfl rfl)⟩
      have hkk := HKK.out
      have := HI0.out (momOf m j) (List.mem_map.2 ⟨j, List.mem_range.2 (by omega), rfl⟩)
      rwa [momOf_val m j m0 hj] at this
  case stop =>
    rintro D pre W hD ⟨k, hk, hpre⟩ ⟨ini, x, e, i0, i1, i2, i3, i4⟩ hK
    have k2 := i2.cell 0
    have k3 := i3.cell 0
    have HI0 := hid i0
    gi_wp2_with fail
    refine ⟨by simp, .inl ⟨_, _, rfl, run_takeDeferred hK, ?_⟩⟩
    have j2' := blk_turn i2 (grownBy_putObj' W D (.deferred none)) (fun r e => by cases e; exact ⟨_, hK, rfl⟩)
    have j3' := blk_turn i3 (grownBy_putObj' W D (.deferred none)) (fun r e => by cases e; exact ⟨_, hK, rfl⟩)
    have l2 := j2'.cell 0
    have l3 := j3'.cell 0
    refine ⟨_, results_cell2 rfl _ _ B1 B2 (.int .i64 x.1) (.int .i64 0) rfl rfl ?_ ?_, ?_⟩
    · simp [go_sem, l2]
    · simp [go_sem, l3]
    · rw [momsL_succ] at hpre
      rw [hpre] at e
      obtain ⟨e1, e2⟩ := List.append_inj' e rfl
      have e3 : x = momOf m k := by simpa using e2.symm
      have e4 : x.1 = m + (k : Int) := by rw [e3, momOf_val m k m0 hk]
      refine ⟨x.1, 0, rfl, .inl ⟨rfl, k, e4, by omega, i1, fun j hj => ?_⟩, i4.trans (belowK_b (w := w) (Nat.le_refl _) W D _ _ (by have := hBw.size; omega) hK rfl rfl)⟩
      have := HI0.out (momOf m j) (by rw [← e1]; exact List.mem_map.2 ⟨j, List.mem_range.2 hj, rfl⟩)
      rwa [momOf_val m j m0 (by omega)] at this

theorem next_no (m a : Int) (w : World) (h : ¬ ((0 ≤ m ∧ m ≤ 38399) ∧ 0 ≤ a ∧ a < 5760)) :
    Calls Tryd.prog 18 #[.int .i64 m, .int .i64 a] w fun e w' => e = .returned (.tuple #[.int .i64 0, .int .i64 1]) ∧ Below w.heap.size w w' := by
  by_cases hm : 0 ≤ m ∧ m ≤ 38399
  · have H1 := hid (fun w => within_yes m 38400 w ⟨hm.1, by omega⟩)
    have H2 := hid (fun w => within_no a 5760 w (fun ha => h ⟨hm, ha⟩))
    clear h hm
    go_enter Tryd.func18, Tryd.ntmps18  ;go_wp2_with (first       | (refine wpl_box rfl 3 (.tmp 1) rfl (.int .i64 a) rfl ?_; intro w1 g0 h00 h01 hb0 hg0)       | (refine wpl_alloc rfl 3 rfl (.int .i64 0) (by kernel_rfl) ?_; intro w2 g1 h10 h11 hb1 hg1)       | (refine wpl_alloc rfl 23 rfl (.int .i64 0) (by kernel_rfl) ?_; intro w3 g2 h20 h21 hb2 hg2))
    have c1 : Blk w3 g1 3 [.int .i64 0] := hb1.grown hg2 (by simp)  ;have c2 : Blk w3 g2 23 [.int .i64 0] := hb2  ;have hBW : Below w.heap.size w w3 := grown_below ((hg0.trans hg1).trans hg2) (Nat.le_refl _) (by simp)  ;have c0 : Blk w3 g0 3 [.int .i64 a] := (hb0.grown hg1 (by simp)).grown hg2 (by simp)  ;have d0 := c0.cell 0  ;have d1 := c1.cell 0  ;have d2 := c2.cell 0  ;have f1 := c1.free 0  ;have f2 := c2.free 0  ;clear hb0 hb1 hb2  ;refine (H1.out _).mono ?_  ;rintro e w' ⟨rfl, rfl⟩  ;go_wp2_with fail
    refine (H2.out _).mono ?_
    rintro e w' ⟨rfl, rfl⟩
    go_wp2_with fail  ;have j2 := ((c1.set 0 (.int .i64 0)).other ⟨g2, 0, none⟩ (by show g1 ≠ g2; omega) (.int .i64 1)).cell 0  ;have j3 := ((c2.other ⟨g1, 0, none⟩ (by show g2 ≠ g1; omega) (.int .i64 0)).set 0 (.int .i64 1)).cell 0  ;refine bodyPost_ret (results_cell2 rfl _ _ g1 g2 (.int .i64 0) (.int .i64 1) rfl rfl (by simp [go_sem, j2]) (by simp [go_sem, j3])) rfl ?_  ;exact ⟨rfl, (hBW.setCell (p := ⟨g1, 0, none⟩) (by show w.heap.size ≤ g1; have := hg0.size; omega) _).setCell (p := ⟨g2, 0, none⟩) (by show w.heap.size ≤ g2; have := hg0.size; have := hg1.size; omega) _⟩
  · have H1 := hid (fun w => within_no m 38400 w (fun hb => hm ⟨hb.1, by omega⟩))
    clear h hm
    go_enter Tryd.func18, Tryd.ntmps18  ;go_wp2_with (first       | (refine wpl_box rfl 3 (.tmp 1) rfl (.int .i64 a) rfl ?_; intro w1 g0 h00 h01 hb0 hg0)       | (refine wpl_alloc rfl 3 rfl (.int .i64 0) (by kernel_rfl) ?_; intro w2 g1 h10 h11 hb1 hg1)       | (refine wpl_alloc rfl 23 rfl (.int .i64 0) (by kernel_rfl) ?_; intro w3 g2 h20 h21 hb2 hg2))
    have c1 : Blk w3 g1 3 [.int .i64 0] := hb1.grown hg2 (by simp)  ;have c2 : Blk w3 g2 23 [.int .i64 0] := hb2  ;have hBW : Below w.heap.size w w3 := grown_below ((hg0.trans hg1).trans hg2) (Nat.le_refl _) (by simp)  ;have c0 : Blk w3 g0 3 [.int .i64 a] := (hb0.grown hg1 (by simp)).grown hg2 (by simp)  ;have d0 := c0.cell 0  ;have d1 := c1.cell 0  ;have d2 := c2.cell 0  ;have f1 := c1.free 0  ;have f2 := c2.free 0  ;clear hb0 hb1 hb2  ;refine (H1.out _).mono ?_  ;rintro e w' ⟨rfl, rfl⟩  ;go_wp2_with fail
    go_wp2_with fail  ;have j2 := ((c1.set 0 (.int .i64 0)).other ⟨g2, 0, none⟩ (by show g1 ≠ g2; omega) (.int .i64 1)).cell 0  ;have j3 := ((c2.other ⟨g1, 0, none⟩ (by show g2 ≠ g1; omega) (.int .i64 0)).set 0 (.int .i64 1)).cell 0  ;refine bodyPost_ret (results_cell2 rfl _ _ g1 g2 (.int .i64 0) (.int .i64 1) rfl rfl (by simp [go_sem, j2]) (by simp [go_sem, j3])) rfl ?_  ;exact ⟨rfl, (hBW.setCell (p := ⟨g1, 0, none⟩) (by show w.heap.size ≤ g1; have := hg0.size; omega) _).setCell (p := ⟨g2, 0, none⟩) (by show w.heap.size ≤ g2; have := hg0.size; have := hg1.size; omega) _⟩
end Go.Proofs.YtlikkplipofghaaDoor
