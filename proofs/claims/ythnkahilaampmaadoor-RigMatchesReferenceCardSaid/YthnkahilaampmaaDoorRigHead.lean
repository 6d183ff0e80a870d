/- rig: the law's head -/
import Derived.Test.YthnkahilaampmaaDoorRigPrep
namespace Go.Proofs.YthnkahilaampmaaDoor
open Go.RowKit

theorem prep_eq (t : Tel) (r : RigT) (c f : Int) (x : RigT) (n e : Int) (w : World) (hs : t.id.size ≤ 1000000) (h : prepR t r c f = (x, n, e)) : Calls Tryd.prog 13 #[telV t, rigV r, .int .i64 c, .int .i64 f] w fun en w' =>
    en = .returned (.tuple #[rigV x, .int .i64 n, .int .i64 e]) ∧ Below w.heap.size w w' := by
  have := prep_any t r c f w hs
  rw [h] at this
  exact this

theorem tel_world (t : Tel) (w : World) : ∃ w0 : World, (w.alloc (.cells #[.string t.id, .int .i64 t.site, .int .i64 t.speed, .int .i64 t.filters, .int .i64 t.d1, .int .i64 t.d2, .int .i64 t.d3, .int .i64 t.d4, .int .i64 t.d5] 25)) = w0 ∧ Blk w0 w.heap.size 25 (telCells t) ∧ Below w.heap.size w w0 :=
  ⟨_, rfl, Blk.new w _ _, below_alloc w _⟩
theorem telrig_world (t : Tel) (r : RigT) (w : World) : ∃ w0 : World, ((w.alloc (.cells #[.string t.id, .int .i64 t.site, .int .i64 t.speed, .int .i64 t.filters, .int .i64 t.d1, .int .i64 t.d2, .int .i64 t.d3, .int .i64 t.d4, .int .i64 t.d5] 25)).alloc (.cells #[.int .i64 r.at_, .int .i64 r.filter, .bool r.stuck] 27)) = w0 ∧ Blk w0 w.heap.size 25 (telCells t) ∧
    Blk w0 (w.heap.size + 1) 27 [.int .i64 r.at_, .int .i64 r.filter, .bool r.stuck] ∧ Below w.heap.size w w0 := by
  refine ⟨_, rfl, (Blk.new w _ _).alloc _, ?_, (below_alloc w _).alloc (by simp) _⟩
  have := Blk.new (w.alloc (.cells #[.string t.id, .int .i64 t.site, .int .i64 t.speed, .int .i64 t.filters, .int .i64 t.d1, .int .i64 t.d2, .int .i64 t.d3, .int .i64 t.d4, .int .i64 t.d5] 25)) #[.int .i64 r.at_, .int .i64 r.filter, .bool r.stuck] 27
  rw [World.size_alloc] at this
  exact this

set_option maxHeartbeats 1000000 in
set_option maxRecDepth 100000 in
theorem prepared_yes (t : Tel) (r : RigT) (c f a n : Int) (w : World) (hs : t.id.size ≤ 1000000) (h : prepR t r c f = (⟨a, f, r.stuck⟩, n, 0)) :
    Calls Tryd.prog 18 #[telV t, rigV r, .int .i64 c, .int .i64 f, .int .i64 a, .int .i64 n] w fun en w' => en = .returned (.bool true) ∧ Below w.heap.size w w' := by
  have HP := hid (fun w => prep_eq t r c f _ _ _ w hs h)
  clear h
  unfold telV rigV at *
  dsimp only at *
  go_enter Tryd.func18, Tryd.ntmps18
  go_wp2_with fail
  obtain ⟨w0, hw0, ht0, hr0, hB0⟩ := telrig_world t r w
  rw [hw0]
  clear hw0
  refine (HP.out _).mono ?_
  rintro e w1 ⟨rfl, hB01⟩
  have hr1 := hr0.below hB01 hr0.lt
  have q2 := (hr1.alloc (Obj.cells #[Value.int .i64 a, Value.int .i64 f, Value.bool r.stuck] 27)).cell 2
  have r2 := hr1.cell 2
  simp only [List.getElem?_cons_succ, List.getElem?_cons_zero] at q2 r2
  have hB1 := hB0.trans (hB01.mono hB0.size)
  go_wp2_with fail
  go_ret
  exact ⟨ret_bool (by first | rfl | simp), hB1.alloc hB1.size _⟩

def T0 : Tel := ⟨⟨#[116]⟩, 0, 3, 5, 0, 0, 0, 0, 0⟩
def T1 : Tel := ⟨⟨#[116]⟩, 0, 5, 5, 0, 0, 0, 0, 0⟩
theorem h1 : prepR T1 ⟨4, 0, false⟩ 19 0 = (rig0, 0, 21) := by decide +kernel
theorem h2 : prepR T0 ⟨4, 0, true⟩ 4 1 = (rig0, 0, 20) := by decide +kernel
theorem h3 : prepR T0 ⟨4, 0, false⟩ 32 0 = (rig0, 0, 1) := by decide +kernel
theorem h4 : prepR T0 ⟨4, 0, false⟩ 6 1 = (⟨6, 1, false⟩, 6, 0) := by decide +kernel
theorem h5 : prepR T0 ⟨4, 0, false⟩ 6 4 = (⟨6, 4, false⟩, 6, 0) := by decide +kernel
theorem h6 : prepR T0 ⟨4, 0, false⟩ 4 3 = (⟨4, 3, false⟩, 4, 0) := by decide +kernel
theorem h7 : prepR T0 ⟨4, 0, false⟩ 20 0 = (⟨-12, 0, false⟩, 48, 0) := by decide +kernel
theorem h8 : prepR T0 ⟨4, 0, false⟩ 25 0 = (⟨-7, 0, false⟩, 33, 0) := by decide +kernel
theorem h9 : prepR T0 ⟨4, 0, true⟩ 6 0 = (⟨6, 0, true⟩, 6, 0) := by decide +kernel
theorem h10 : validB T0 ⟨4, 0, false⟩ = true := by decide +kernel
theorem h11 : validB T0 ⟨49, 0, false⟩ = false := by decide +kernel

/-- the four structs of head -/
structure HB (w0 : World) (b : Nat) : Prop where
  t : Blk w0 b 25 [.string ⟨#[116]⟩, .int .i64 0, .int .i64 3, .int .i64 5, .int .i64 0, .int .i64 0, .int .i64 0, .int .i64 0, .int .i64 0]
  r : Blk w0 (b + 1) 27 [.int .i64 4, .int .i64 0, .bool false]
  f : Blk w0 (b + 1 + 1) 25 [.string ⟨#[116]⟩, .int .i64 0, .int .i64 5, .int .i64 5, .int .i64 0, .int .i64 0, .int .i64 0, .int .i64 0, .int .i64 0]
  s : Blk w0 (b + 1 + 1 + 1) 27 [.int .i64 4, .int .i64 0, .bool true]
theorem HB.below {w w' : World} {b : Nat} (h : HB w b) (hB : Below w.heap.size w w') : HB w' b := ⟨h.t.below hB h.t.lt, h.r.below hB h.r.lt, h.f.below hB h.f.lt, h.s.below hB h.s.lt⟩
theorem HB.alloc {w : World} {b : Nat} (h : HB w b) (o : Obj) : HB (w.alloc o) b := ⟨h.t.alloc o, h.r.alloc o, h.f.alloc o, h.s.alloc o⟩
theorem HB.cells {w : World} {b : Nat} (h : HB w b) : w.cell? ⟨b, 0, none⟩ = some (.string ⟨#[116]⟩) ∧ w.cell? ⟨b, 1, none⟩ = some (.int .i64 0) ∧ w.cell? ⟨b, 2, none⟩ = some (.int .i64 3) ∧ w.cell? ⟨b, 3, none⟩ = some (.int .i64 5) ∧ w.cell? ⟨b, 4, none⟩ = some (.int .i64 0) ∧ w.cell? ⟨b, 5, none⟩ = some (.int .i64 0) ∧ w.cell? ⟨b, 6, none⟩ = some (.int .i64 0) ∧ w.cell? ⟨b, 7, none⟩ = some (.int .i64 0) ∧ w.cell? ⟨b, 8, none⟩ = some (.int .i64 0) ∧ w.cell? ⟨b + 1, 0, none⟩ = some (.int .i64 4) ∧ w.cell? ⟨b + 1, 1, none⟩ = some (.int .i64 0) ∧ w.cell? ⟨b + 1, 2, none⟩ = some (.bool false) ∧ w.cell? ⟨b + 1 + 1 + 1, 0, none⟩ = some (.int .i64 4) ∧ w.cell? ⟨b + 1 + 1 + 1, 1, none⟩ = some (.int .i64 0) ∧ w.cell? ⟨b + 1 + 1 + 1, 2, none⟩ = some (.bool true) :=
  ⟨h.t.cell 0, h.t.cell 1, h.t.cell 2, h.t.cell 3, h.t.cell 4, h.t.cell 5, h.t.cell 6, h.t.cell 7, h.t.cell 8, h.r.cell 0, h.r.cell 1, h.r.cell 2, h.s.cell 0, h.s.cell 1, h.s.cell 2⟩
theorem head_world (w : World) : ∃ w0 : World, ((((w.alloc (.cells #[.string ⟨#[116]⟩, .int .i64 0, .int .i64 3, .int .i64 5, .int .i64 0, .int .i64 0, .int .i64 0, .int .i64 0, .int .i64 0] 25)).alloc (.cells #[.int .i64 4, .int .i64 0, .bool false] 27)).alloc (.cells #[.string ⟨#[116]⟩, .int .i64 0, .int .i64 5, .int .i64 5, .int .i64 0, .int .i64 0, .int .i64 0, .int .i64 0, .int .i64 0] 25)).alloc (.cells #[.int .i64 4, .int .i64 0, .bool true] 27)) = w0 ∧ HB w0 w.heap.size ∧ Below w.heap.size w w0 := by
  refine ⟨_, rfl, ⟨(((Blk.new w _ _).alloc _).alloc _).alloc _, ?_, ?_, ?_⟩, (((below_alloc w _).alloc (by simp) _).alloc (by simp; omega) _).alloc (by simp; omega) _⟩
  · have := Blk.new (w.alloc (.cells #[.string ⟨#[116]⟩, .int .i64 0, .int .i64 3, .int .i64 5, .int .i64 0, .int .i64 0, .int .i64 0, .int .i64 0, .int .i64 0] 25)) #[.int .i64 4, .int .i64 0, .bool false] 27
    simp only [World.size_alloc] at this
    exact (this.alloc _).alloc _
  · have := Blk.new ((w.alloc (.cells #[.string ⟨#[116]⟩, .int .i64 0, .int .i64 3, .int .i64 5, .int .i64 0, .int .i64 0, .int .i64 0, .int .i64 0, .int .i64 0] 25)).alloc (.cells #[.int .i64 4, .int .i64 0, .bool false] 27)) #[.string ⟨#[116]⟩, .int .i64 0, .int .i64 5, .int .i64 5, .int .i64 0, .int .i64 0, .int .i64 0, .int .i64 0, .int .i64 0] 25
    simp only [World.size_alloc] at this
    exact this.alloc _
  · have := Blk.new (((w.alloc (.cells #[.string ⟨#[116]⟩, .int .i64 0, .int .i64 3, .int .i64 5, .int .i64 0, .int .i64 0, .int .i64 0, .int .i64 0, .int .i64 0] 25)).alloc (.cells #[.int .i64 4, .int .i64 0, .bool false] 27)).alloc (.cells #[.string ⟨#[116]⟩, .int .i64 0, .int .i64 5, .int .i64 5, .int .i64 0, .int .i64 0, .int .i64 0, .int .i64 0, .int .i64 0] 25)) #[.int .i64 4, .int .i64 0, .bool true] 27
    simp only [World.size_alloc] at this
    exact this


theorem prep_lit {t : Tel} {r : RigT} {c f n e : Int} {x : RigT} {v : Value} (hs : t.id.size ≤ 1000000) (h : prepR t r c f = (x, n, e)) (hv : rigV x = v) (w : World) : Calls Tryd.prog 13 #[telV t, rigV r, .int .i64 c, .int .i64 f] w fun en w' =>
    en = .returned (.tuple #[v, .int .i64 n, .int .i64 e]) ∧ Below w.heap.size w w' := by
  subst hv; exact prep_eq t r c f x n e w hs h

theorem valid_lit {t : Tel} {r : RigT} {b : Bool} (hs : t.id.size ≤ 1000000) (h : validB t r = b) (w : World) : Calls Tryd.prog 15 #[telV t, rigV r] w fun e w' => e = .returned (.bool b) ∧ Below w.heap.size w w' := by
  subst h; exact valid_any t r w hs

set_option maxHeartbeats 4000000 in
set_option maxRecDepth 100000 in
theorem head_any (w : World) : Calls Tryd.prog 9 #[] w fun e w' => e = .returned (.bool true) ∧ Below w.heap.size w w' := by
  go_enter Tryd.func9, Tryd.ntmps9
  go_wp2_with fail
  obtain ⟨w0, hw0, hh, hB0⟩ := head_world w
  rw [hw0]
  clear hw0
  refine (prep_lit (t := T1) (r := ⟨4, 0, false⟩) (v := .agg #[.int .i64 0, .int .i64 0, .bool false]) (by decide) h1 rfl _).mono ?_
  rintro e w1 ⟨rfl, hB1⟩
  replace hh := (hh.below hB1).alloc (Obj.cells #[Value.int .i64 0, Value.int .i64 0, Value.bool false] 27)
  replace hB0 := (hB0.trans (hB1.mono hB0.size)).alloc (by have := hB0.size; have := hB1.size; omega) (Obj.cells #[Value.int .i64 0, Value.int .i64 0, Value.bool false] 27)
  clear hB1
  go_wp2_with (first    | (refine wpList_load_row rfl 25 _ rfl w.heap.size rfl 25 _ (0, 0) _ hh.t Tryd.underlying25 rfl (by kernel_rfl) ?_)    | (refine wpList_load_row rfl 27 _ rfl (w.heap.size + 1) rfl 27 _ (0, 0) _ hh.r Tryd.underlying27 rfl (by kernel_rfl) ?_)    | (refine wpList_load_row rfl 25 _ rfl (w.heap.size + 1 + 1) rfl 25 _ (0, 0) _ hh.f Tryd.underlying25 rfl (by kernel_rfl) ?_)    | (refine wpList_load_row rfl 27 _ rfl (w.heap.size + 1 + 1 + 1) rfl 27 _ (0, 0) _ hh.s Tryd.underlying27 rfl (by kernel_rfl) ?_))
  refine (prep_lit (t := T0) (r := ⟨4, 0, true⟩) (v := .agg #[.int .i64 0, .int .i64 0, .bool false]) (by decide) h2 rfl _).mono ?_
  rintro e w2 ⟨rfl, hB1⟩
  replace hh := (hh.below hB1).alloc (Obj.cells #[Value.int .i64 0, Value.int .i64 0, Value.bool false] 27)
  replace hB0 := (hB0.trans (hB1.mono hB0.size)).alloc (by have := hB0.size; have := hB1.size; omega) (Obj.cells #[Value.int .i64 0, Value.int .i64 0, Value.bool false] 27)
  clear hB1
  go_wp2_with (first    | (refine wpList_load_row rfl 25 _ rfl w.heap.size rfl 25 _ (0, 0) _ hh.t Tryd.underlying25 rfl (by kernel_rfl) ?_)    | (refine wpList_load_row rfl 27 _ rfl (w.heap.size + 1) rfl 27 _ (0, 0) _ hh.r Tryd.underlying27 rfl (by kernel_rfl) ?_)    | (refine wpList_load_row rfl 25 _ rfl (w.heap.size + 1 + 1) rfl 25 _ (0, 0) _ hh.f Tryd.underlying25 rfl (by kernel_rfl) ?_)    | (refine wpList_load_row rfl 27 _ rfl (w.heap.size + 1 + 1 + 1) rfl 27 _ (0, 0) _ hh.s Tryd.underlying27 rfl (by kernel_rfl) ?_))
  refine (prep_lit (t := T0) (r := ⟨4, 0, false⟩) (v := .agg #[.int .i64 0, .int .i64 0, .bool false]) (by decide) h3 rfl _).mono ?_
  rintro e w3 ⟨rfl, hB1⟩
  replace hh := (hh.below hB1).alloc (Obj.cells #[Value.int .i64 0, Value.int .i64 0, Value.bool false] 27)
  replace hB0 := (hB0.trans (hB1.mono hB0.size)).alloc (by have := hB0.size; have := hB1.size; omega) (Obj.cells #[Value.int .i64 0, Value.int .i64 0, Value.bool false] 27)
  clear hB1
  go_wp2_with (first    | (refine wpList_load_row rfl 25 _ rfl w.heap.size rfl 25 _ (0, 0) _ hh.t Tryd.underlying25 rfl (by kernel_rfl) ?_)    | (refine wpList_load_row rfl 27 _ rfl (w.heap.size + 1) rfl 27 _ (0, 0) _ hh.r Tryd.underlying27 rfl (by kernel_rfl) ?_)    | (refine wpList_load_row rfl 25 _ rfl (w.heap.size + 1 + 1) rfl 25 _ (0, 0) _ hh.f Tryd.underlying25 rfl (by kernel_rfl) ?_)    | (refine wpList_load_row rfl 27 _ rfl (w.heap.size + 1 + 1 + 1) rfl 27 _ (0, 0) _ hh.s Tryd.underlying27 rfl (by kernel_rfl) ?_))
  refine (prepared_yes T0 ⟨4, 0, false⟩ _ _ _ _ _ (by decide) h4).mono ?_
  rintro e w4 ⟨rfl, hB1⟩
  replace hh := hh.below hB1
  replace hB0 := hB0.trans (hB1.mono hB0.size)
  clear hB1
  obtain ⟨c0, c1, c2, c3, c4, c5, c6, c7, c8, r0, r1, r2, s0, s1, s2⟩ := hh.cells
  go_wp2_with fail
  clear c0 c1 c2 c3 c4 c5 c6 c7 c8 r0 r1 r2 s0 s1 s2
  refine (prepared_yes T0 ⟨4, 0, false⟩ _ _ _ _ _ (by decide) h5).mono ?_
  rintro e w5 ⟨rfl, hB1⟩
  replace hh := hh.below hB1
  replace hB0 := hB0.trans (hB1.mono hB0.size)
  clear hB1
  obtain ⟨c0, c1, c2, c3, c4, c5, c6, c7, c8, r0, r1, r2, s0, s1, s2⟩ := hh.cells
  go_wp2_with fail
  clear c0 c1 c2 c3 c4 c5 c6 c7 c8 r0 r1 r2 s0 s1 s2
  refine (prepared_yes T0 ⟨4, 0, false⟩ _ _ _ _ _ (by decide) h6).mono ?_
  rintro e w6 ⟨rfl, hB1⟩
  replace hh := hh.below hB1
  replace hB0 := hB0.trans (hB1.mono hB0.size)
  clear hB1
  obtain ⟨c0, c1, c2, c3, c4, c5, c6, c7, c8, r0, r1, r2, s0, s1, s2⟩ := hh.cells
  go_wp2_with fail
  clear c0 c1 c2 c3 c4 c5 c6 c7 c8 r0 r1 r2 s0 s1 s2
  refine (prepared_yes T0 ⟨4, 0, false⟩ _ _ _ _ _ (by decide) h7).mono ?_
  rintro e w7 ⟨rfl, hB1⟩
  replace hh := hh.below hB1
  replace hB0 := hB0.trans (hB1.mono hB0.size)
  clear hB1
  obtain ⟨c0, c1, c2, c3, c4, c5, c6, c7, c8, r0, r1, r2, s0, s1, s2⟩ := hh.cells
  go_wp2_with fail
  clear c0 c1 c2 c3 c4 c5 c6 c7 c8 r0 r1 r2 s0 s1 s2
  refine (prepared_yes T0 ⟨4, 0, false⟩ _ _ _ _ _ (by decide) h8).mono ?_
  rintro e w8 ⟨rfl, hB1⟩
  replace hh := hh.below hB1
  replace hB0 := hB0.trans (hB1.mono hB0.size)
  clear hB1
  obtain ⟨c0, c1, c2, c3, c4, c5, c6, c7, c8, r0, r1, r2, s0, s1, s2⟩ := hh.cells
  go_wp2_with fail
  clear c0 c1 c2 c3 c4 c5 c6 c7 c8 r0 r1 r2 s0 s1 s2
  refine (prepared_yes T0 ⟨4, 0, true⟩ _ _ _ _ _ (by decide) h9).mono ?_
  rintro e w9 ⟨rfl, hB1⟩
  replace hh := hh.below hB1
  replace hB0 := hB0.trans (hB1.mono hB0.size)
  clear hB1
  obtain ⟨c0, c1, c2, c3, c4, c5, c6, c7, c8, r0, r1, r2, s0, s1, s2⟩ := hh.cells
  go_wp2_with fail
  clear c0 c1 c2 c3 c4 c5 c6 c7 c8 r0 r1 r2 s0 s1 s2
  refine (valid_lit (t := T0) (r := ⟨4, 0, false⟩) (by decide) h10 _).mono ?_
  rintro e w10 ⟨rfl, hB1⟩
  replace hh := hh.below hB1
  replace hB0 := hB0.trans (hB1.mono hB0.size)
  clear hB1
  obtain ⟨c0, c1, c2, c3, c4, c5, c6, c7, c8, r0, r1, r2, s0, s1, s2⟩ := hh.cells
  go_wp2_with fail
  clear c0 c1 c2 c3 c4 c5 c6 c7 c8 r0 r1 r2 s0 s1 s2
  refine (valid_lit (t := T0) (r := ⟨49, 0, false⟩) (by decide) h11 _).mono ?_
  rintro e w11 ⟨rfl, hB1⟩
  replace hh := hh.below hB1
  replace hB0 := hB0.trans (hB1.mono hB0.size)
  clear hB1
  obtain ⟨c0, c1, c2, c3, c4, c5, c6, c7, c8, r0, r1, r2, s0, s1, s2⟩ := hh.cells
  go_wp2_with fail
  clear c0 c1 c2 c3 c4 c5 c6 c7 c8 r0 r1 r2 s0 s1 s2
  go_ret
  exact ⟨ret_bool (by first | rfl | simp), hB0⟩
end Go.Proofs.YthnkahilaampmaaDoor
