/- rig: the statement RigStuck -/
import Derived.Test.YthnkahilaampmaaDoorRigLaw2
import Derived.Deep.RegionHeld3
namespace Go.Proofs.YthnkahilaampmaaDoor
open Go.RowKit

theorem stuck_cases (t : Tel) (a k c f : Int) :
    (prepR t ⟨a, k, false⟩ c f = (rig0, 0, 1) ∧ prepR t ⟨a, k, true⟩ c f = (rig0, 0, 1)) ∨
    (f ≠ k ∧ prepR t ⟨a, k, true⟩ c f = (rig0, 0, 20) ∧ ∃ x n e, prepR t ⟨a, k, false⟩ c f = (x, n, e) ∧ (e = 0 ∨ e = 21)) ∨
    (f = k ∧ ∃ p n, prepR t ⟨a, k, false⟩ c f = (⟨p, f, false⟩, n, 0) ∧ prepR t ⟨a, k, true⟩ c f = (⟨p, f, true⟩, n, 0)) ∨
    (f = k ∧ prepR t ⟨a, k, false⟩ c f = (rig0, 0, 21) ∧ prepR t ⟨a, k, true⟩ c f = (rig0, 0, 21)) := by
  have e1 : prepP c ⟨a, k, true⟩ = prepP c ⟨a, k, false⟩ := rfl
  have e2 : prepD c ⟨a, k, true⟩ = prepD c ⟨a, k, false⟩ := rfl
  have e3 : validB t ⟨a, k, true⟩ = validB t ⟨a, k, false⟩ := rfl
  unfold prepR
  dsimp only
  rw [e1, e2, e3]
  generalize prepP c ⟨a, k, false⟩ = p
  generalize prepD c ⟨a, k, false⟩ = d
  generalize (validB t ⟨a, k, false⟩ && flB t f && colB c) = ok
  cases ok with
  | false => left; simp
  | true =>
    right
    by_cases hf : f = k
    · right
      subst hf
      by_cases hp : p = a
      · left; refine ⟨rfl, p, 0, ?_, ?_⟩ <;> simp [hp]
      · by_cases h60 : 60 < max (t.speed * d) (turnV t f f)
        · right; refine ⟨rfl, ?_, ?_⟩ <;> simp only [hp, h60, if_true, if_false, false_and, ne_eq, not_true_eq_false, and_false]
        · left; refine ⟨rfl, p, max (t.speed * d) (turnV t f f), ?_, ?_⟩ <;> simp only [hp, h60, if_true, if_false, false_and, ne_eq, not_true_eq_false, and_false]
    · left
      refine ⟨hf, by simp [hf], ?_⟩
      by_cases h60 : 60 < max (t.speed * d) (turnV t k f)
      · exact ⟨rig0, 0, 21, by simp only [hf, h60, if_true, if_false, and_false, Bool.false_eq_true, false_and], .inr rfl⟩
      · exact ⟨⟨p, f, false⟩, max (t.speed * d) (turnV t k f), 0, by simp only [hf, h60, if_true, if_false, and_false, Bool.false_eq_true, false_and], .inl rfl⟩

/-- two new rigs -/
theorem two_rigs (r : RigT) (w' : World) : ∃ w2, ((w'.alloc (.cells #[.int .i64 r.at_, .int .i64 r.filter, .bool r.stuck] 27)).alloc (.cells #[.int .i64 r.at_, .int .i64 r.filter, .bool r.stuck] 27)).drew = w2 ∧
    Blk w2 w'.heap.size 27 [.int .i64 r.at_, .int .i64 r.filter, .bool r.stuck] ∧ Blk w2 (w'.heap.size + 1) 27 [.int .i64 r.at_, .int .i64 r.filter, .bool r.stuck] ∧ Below w'.heap.size w' w2 := by
  refine ⟨_, rfl, ((Blk.new w' _ _).alloc _).drew, ?_, ((below_alloc w' _).alloc (by simp) _).drew⟩
  have := Blk.new (w'.alloc (.cells #[.int .i64 r.at_, .int .i64 r.filter, .bool r.stuck] 27)) #[.int .i64 r.at_, .int .i64 r.filter, .bool r.stuck] 27
  rw [World.size_alloc] at this
  exact this.drew

set_option maxHeartbeats 4000000 in
set_option maxRecDepth 100000 in
theorem stuck_walk (t : Tel) (r : RigT) (c f : Int) (w : World) (hs : t.id.size ≤ maxLen) : Calls Tryd.prog 7 #[telV t, rigV r, .int .i64 c, .int .i64 f] w fun e w' => e = .returned (.bool true) ∧ Below w.heap.size w w' := by
  have HF := hid (fun w => few_lit (t := t) (b := decide (t.id.size ≤ 60)) hs rfl w)
  rw [telV_eq, rigV_eq] at *
  go_enter Tryd.func7, Tryd.ntmps7
  go_wp2_with fail
  obtain ⟨w0, hw0, ht, hr, hB⟩ := telrig_world t r w
  rw [hw0]
  clear hw0
  refine (head_any _).mono ?_
  rintro e w' ⟨rfl, hB1⟩
  replace ht := ht.below hB1 ht.lt
  replace hr := hr.below hB1 hr.lt
  replace hB := hB.trans (hB1.mono hB.size)
  clear hB1
  obtain ⟨tc0, tc1, tc2, tc3, tc4, tc5, tc6, tc7, tc8⟩ := tel_cells ht
  obtain ⟨rc0, rc1, rc2⟩ := rig_cells hr
  go_wp2_with fail
  clear tc0 tc1 tc2 tc3 tc4 tc5 tc6 tc7 tc8 rc0 rc1 rc2
  refine (HF.out _).mono ?_
  rintro e w' ⟨rfl, hB1⟩
  replace ht := ht.below hB1 ht.lt
  replace hr := hr.below hB1 hr.lt
  replace hB := hB.trans (hB1.mono hB.size)
  clear hB1
  obtain ⟨tc0, tc1, tc2, tc3, tc4, tc5, tc6, tc7, tc8⟩ := tel_cells ht
  obtain ⟨rc0, rc1, rc2⟩ := rig_cells hr
  by_cases h60 : t.id.size ≤ 60
  rotate_left
  · rw [decide_eq_false h60]
    go_wp2_with fail
    go_ret
    exact ⟨ret_bool (by first | rfl | simp), hB⟩
  rw [decide_eq_true h60]
  have hs' : t.id.size ≤ 1000000 := by omega
  clear HF hs h60
  have hc := stuck_cases t r.at_ r.filter c f
  obtain ⟨x, n, e, hP⟩ : ∃ x n e, prepR t ⟨r.at_, r.filter, false⟩ c f = (x, n, e) := ⟨_, _, _, rfl⟩
  obtain ⟨y, m, g, hQ⟩ : ∃ x n e, prepR t ⟨r.at_, r.filter, true⟩ c f = (x, n, e) := ⟨_, _, _, rfl⟩
  obtain ⟨xa, xf, xs⟩ := x
  obtain ⟨ya, yf, ys⟩ := y
  have HP := hid (fun w => prep_lit (v := .agg #[.int .i64 xa, .int .i64 xf, .bool xs]) hs' hP rfl w)
  have HQ := hid (fun w => prep_lit (v := .agg #[.int .i64 ya, .int .i64 yf, .bool ys]) hs' hQ rfl w)
  rw [hP, hQ] at hc
  have HC := hid hc
  clear hc hP hQ hs'
  go_wp2_with fail
  have n0 := World.new_ne w' _ rc0
  have n1 := World.new_ne w' _ rc1
  have n2 := World.new_ne w' _ rc2
  go_region_held3 (fun w' => w'.cell? ⟨w.heap.size + 1, 0, none⟩ = some (.int .i64 r.at_) ∧ w'.cell? ⟨w.heap.size + 1, 1, none⟩ = some (.int .i64 r.filter) ∧ w'.cell? ⟨w.heap.size + 1, 2, none⟩ = some (.bool r.stuck)) (go_keep) (fail)
  all_goals clear n0 n1 n2 tc0 tc1 tc2 tc3 tc4 tc5 tc6 tc7 tc8 rc0 rc1 rc2
  · obtain ⟨w2, hw2, hA, hA2, hB2⟩ := two_rigs r w'  ;rw [hw2]  ;clear hw2  ;have hlt := hr.lt  ;replace ht := ht.below hB2 ht.lt  ;replace hr := hr.below hB2 hr.lt  ;replace hB := hB.trans (hB2.mono hB.size)  ;clear hB2
    generalize hq1 : w'.heap.size + 1 = bs at *
    generalize hq2 : w'.heap.size = bf at *
    have hfr := hA
    have hst := hA2
    clear hA hA2
    have hne : bf ≠ bs := (by omega)  ;have hlf : w.heap.size + 1 < bf := (by omega)  ;have hls : w.heap.size + 1 < bs := (by omega)  ;clear hq1 hq2 hlt  ;have fc2 := hfr.cell 2  ;have ff2 := hfr.free 2  ;have sc2 := hst.cell 2  ;have sf2 := hst.free 2  ;simp only [List.getElem?_cons_succ, List.getElem?_cons_zero] at fc2 sc2  ;obtain ⟨tc0, tc1, tc2, tc3, tc4, tc5, tc6, tc7, tc8⟩ := tel_cells ht  ;obtain ⟨rc0, rc1, rc2⟩ := rig_cells hr  ;have fc0 := hfr.cell 0  ;have fc1 := hfr.cell 1  ;simp only [List.getElem?_cons_succ, List.getElem?_cons_zero] at fc0 fc1  ;go_wp2_with fail  ;clear fc0 fc1 fc2 sc2 ff2 sf2 tc0 tc1 tc2 tc3 tc4 tc5 tc6 tc7 tc8 rc0 rc1 rc2  ;have hfr3 : Blk ((w2.setCell ⟨bf, 2, none⟩ (.bool false)).setCell ⟨bs, 2, none⟩ (.bool true)) bf 27 [.int .i64 r.at_, .int .i64 r.filter, .bool false] := (hfr.set 2 (.bool false)).other ⟨bs, 2, none⟩ hne _  ;have hst3 : Blk ((w2.setCell ⟨bf, 2, none⟩ (.bool false)).setCell ⟨bs, 2, none⟩ (.bool true)) bs 27 [.int .i64 r.at_, .int .i64 r.filter, .bool true] := (hst.other ⟨bf, 2, none⟩ (Ne.symm hne) (.bool false)).set 2 (.bool true)  ;have ht3 := (ht.other ⟨bf, 2, none⟩ (by show w.heap.size ≠ bf; omega) (.bool false)).other ⟨bs, 2, none⟩ (by show w.heap.size ≠ bs; omega) (.bool true)  ;have hr3 := (hr.other ⟨bf, 2, none⟩ (by show w.heap.size + 1 ≠ bf; omega) (.bool false)).other ⟨bs, 2, none⟩ (by show w.heap.size + 1 ≠ bs; omega) (.bool true)  ;have hB3 := (hB.setCell (p := ⟨bf, 2, none⟩) (by show w.heap.size ≤ bf; omega) (.bool false)).setCell (p := ⟨bs, 2, none⟩) (by show w.heap.size ≤ bs; omega) (.bool true)  ;clear hfr hst ht hr hB  ;generalize ((w2.setCell ⟨bf, 2, none⟩ (.bool false)).setCell ⟨bs, 2, none⟩ (.bool true)) = w3 at *
    refine (HP.out _).mono ?_  ;rintro e0 w4 ⟨rfl, hB1⟩  ;have hlx := (hr3.below hB1 hr3.lt).lt  ;have ht4 := (ht3.below hB1 ht3.lt).alloc (Obj.cells #[Value.int .i64 xa, Value.int .i64 xf, Value.bool xs] 27)  ;have hr4 := (hr3.below hB1 hr3.lt).alloc (Obj.cells #[Value.int .i64 xa, Value.int .i64 xf, Value.bool xs] 27)  ;have hst4 := (hst3.below hB1 hst3.lt).alloc (Obj.cells #[Value.int .i64 xa, Value.int .i64 xf, Value.bool xs] 27)  ;have hx := Blk.new w4 #[Value.int .i64 xa, Value.int .i64 xf, Value.bool xs] 27  ;have hB4 := (hB3.trans (hB1.mono hB3.size)).alloc (by have := hB3.size; have := hB1.size; omega) (Obj.cells #[Value.int .i64 xa, Value.int .i64 xf, Value.bool xs] 27)  ;clear ht3 hr3 hst3 hfr3 hB3 hB1  ;obtain ⟨tc0, tc1, tc2, tc3, tc4, tc5, tc6, tc7, tc8⟩ := tel_cells ht4  ;have sc0 := hst4.cell 0  ;have sc1 := hst4.cell 1  ;have sc2 := hst4.cell 2  ;simp only [List.getElem?_cons_succ, List.getElem?_cons_zero] at sc0 sc1 sc2  ;go_wp2_with fail  ;clear tc0 tc1 tc2 tc3 tc4 tc5 tc6 tc7 tc8 sc0 sc1 sc2  ;refine (HQ.out _).mono ?_  ;generalize w4.heap.size = xb at *  ;rintro e0 w6 ⟨rfl, hB1⟩  ;have hly := (hx.below hB1 hx.lt).lt  ;have hr6 := (hr4.below hB1 hr4.lt).alloc (Obj.cells #[Value.int .i64 ya, Value.int .i64 yf, Value.bool ys] 27)  ;have hx6 := (hx.below hB1 hx.lt).alloc (Obj.cells #[Value.int .i64 ya, Value.int .i64 yf, Value.bool ys] 27)  ;have hy := Blk.new w6 #[Value.int .i64 ya, Value.int .i64 yf, Value.bool ys] 27  ;have hB6 := (hB4.trans (hB1.mono hB4.size)).alloc (by have := hB4.size; have := hB1.size; omega) (Obj.cells #[Value.int .i64 ya, Value.int .i64 yf, Value.bool ys] 27)  ;clear hB4 hB1 ht4 hr4 hst4 hx  ;have rc1 := hr6.cell 1  ;have xc0 := hx6.cell 0  ;have xc1 := hx6.cell 1  ;have xc2 := hx6.cell 2  ;have xz2 := hx6.free 2  ;have yc0 := hy.cell 0  ;have yc1 := hy.cell 1  ;have yc2 := hy.cell 2  ;simp only [List.getElem?_cons_succ, List.getElem?_cons_zero] at rc1 xc0 xc1 xc2 yc0 yc1 yc2  ;clear hr6 hx6 hy
    obtain ⟨e1, e2⟩ | ⟨hf, e2, ⟨xa', xf', xs'⟩, n', e', e1, he⟩ | ⟨hf, p, n', e1, e2⟩ | ⟨hf, e1, e2⟩ := HC.out
    · simp only [rig0, Prod.mk.injEq, RigT.mk.injEq] at e1 e2
      obtain ⟨⟨rfl, rfl, rfl⟩, rfl, rfl⟩ := e1
      obtain ⟨⟨rfl, rfl, rfl⟩, rfl, rfl⟩ := e2
      go_wp2_with fail
      go_ret
      exact ⟨ret_bool (by first | rfl | simp), hB6⟩
    · simp only [rig0, Prod.mk.injEq, RigT.mk.injEq] at e1 e2
      obtain ⟨⟨rfl, rfl, rfl⟩, rfl, rfl⟩ := e1
      obtain ⟨⟨rfl, rfl, rfl⟩, rfl, rfl⟩ := e2
      have hf1 : (f != r.filter) = true := by rw [bne_iff_ne]; exact hf
      clear hf
      rcases he with rfl | rfl
      · go_wp2_with fail
        go_ret
        exact ⟨ret_bool (by first | rfl | simp), hB6⟩
      · go_wp2_with fail
        go_ret
        exact ⟨ret_bool (by first | rfl | simp), hB6⟩
    · simp only [Prod.mk.injEq, RigT.mk.injEq] at e1 e2
      have hf1 : (f != r.filter) = false := by rw [hf]; simp
      have hne3 : xb ≠ w6.heap.size := by omega
      clear hf hly
      obtain ⟨⟨rfl, rfl, rfl⟩, rfl, rfl⟩ := e1
      obtain ⟨⟨rfl, rfl, rfl⟩, rfl, rfl⟩ := e2
      go_wp2_with fail
      go_ret
      exact ⟨ret_bool (by first | rfl | simp), hB6.setCell (p := ⟨xb, 2, none⟩) (by show w.heap.size ≤ xb; omega) _⟩
    · simp only [rig0, Prod.mk.injEq, RigT.mk.injEq] at e1 e2
      obtain ⟨⟨rfl, rfl, rfl⟩, rfl, rfl⟩ := e1
      obtain ⟨⟨rfl, rfl, rfl⟩, rfl, rfl⟩ := e2
      have hf1 : (f != r.filter) = false := by rw [hf]; simp
      clear hf
      go_wp2_with fail
      go_ret
      exact ⟨ret_bool (by first | rfl | simp), hB6⟩
  · obtain ⟨w2, hw2, hA, hA2, hB2⟩ := two_rigs r w'  ;rw [hw2]  ;clear hw2  ;have hlt := hr.lt  ;replace ht := ht.below hB2 ht.lt  ;replace hr := hr.below hB2 hr.lt  ;replace hB := hB.trans (hB2.mono hB.size)  ;clear hB2
    generalize hq1 : w'.heap.size + 1 = bf at *
    generalize hq2 : w'.heap.size = bs at *
    have hfr := hA2
    have hst := hA
    clear hA hA2
    have hne : bf ≠ bs := (by omega)  ;have hlf : w.heap.size + 1 < bf := (by omega)  ;have hls : w.heap.size + 1 < bs := (by omega)  ;clear hq1 hq2 hlt  ;have fc2 := hfr.cell 2  ;have ff2 := hfr.free 2  ;have sc2 := hst.cell 2  ;have sf2 := hst.free 2  ;simp only [List.getElem?_cons_succ, List.getElem?_cons_zero] at fc2 sc2  ;obtain ⟨tc0, tc1, tc2, tc3, tc4, tc5, tc6, tc7, tc8⟩ := tel_cells ht  ;obtain ⟨rc0, rc1, rc2⟩ := rig_cells hr  ;have fc0 := hfr.cell 0  ;have fc1 := hfr.cell 1  ;simp only [List.getElem?_cons_succ, List.getElem?_cons_zero] at fc0 fc1  ;go_wp2_with fail  ;clear fc0 fc1 fc2 sc2 ff2 sf2 tc0 tc1 tc2 tc3 tc4 tc5 tc6 tc7 tc8 rc0 rc1 rc2  ;have hfr3 : Blk ((w2.setCell ⟨bf, 2, none⟩ (.bool false)).setCell ⟨bs, 2, none⟩ (.bool true)) bf 27 [.int .i64 r.at_, .int .i64 r.filter, .bool false] := (hfr.set 2 (.bool false)).other ⟨bs, 2, none⟩ hne _  ;have hst3 : Blk ((w2.setCell ⟨bf, 2, none⟩ (.bool false)).setCell ⟨bs, 2, none⟩ (.bool true)) bs 27 [.int .i64 r.at_, .int .i64 r.filter, .bool true] := (hst.other ⟨bf, 2, none⟩ (Ne.symm hne) (.bool false)).set 2 (.bool true)  ;have ht3 := (ht.other ⟨bf, 2, none⟩ (by show w.heap.size ≠ bf; omega) (.bool false)).other ⟨bs, 2, none⟩ (by show w.heap.size ≠ bs; omega) (.bool true)  ;have hr3 := (hr.other ⟨bf, 2, none⟩ (by show w.heap.size + 1 ≠ bf; omega) (.bool false)).other ⟨bs, 2, none⟩ (by show w.heap.size + 1 ≠ bs; omega) (.bool true)  ;have hB3 := (hB.setCell (p := ⟨bf, 2, none⟩) (by show w.heap.size ≤ bf; omega) (.bool false)).setCell (p := ⟨bs, 2, none⟩) (by show w.heap.size ≤ bs; omega) (.bool true)  ;clear hfr hst ht hr hB  ;generalize ((w2.setCell ⟨bf, 2, none⟩ (.bool false)).setCell ⟨bs, 2, none⟩ (.bool true)) = w3 at *
    refine (HP.out _).mono ?_  ;rintro e0 w4 ⟨rfl, hB1⟩  ;have hlx := (hr3.below hB1 hr3.lt).lt  ;have ht4 := (ht3.below hB1 ht3.lt).alloc (Obj.cells #[Value.int .i64 xa, Value.int .i64 xf, Value.bool xs] 27)  ;have hr4 := (hr3.below hB1 hr3.lt).alloc (Obj.cells #[Value.int .i64 xa, Value.int .i64 xf, Value.bool xs] 27)  ;have hst4 := (hst3.below hB1 hst3.lt).alloc (Obj.cells #[Value.int .i64 xa, Value.int .i64 xf, Value.bool xs] 27)  ;have hx := Blk.new w4 #[Value.int .i64 xa, Value.int .i64 xf, Value.bool xs] 27  ;have hB4 := (hB3.trans (hB1.mono hB3.size)).alloc (by have := hB3.size; have := hB1.size; omega) (Obj.cells #[Value.int .i64 xa, Value.int .i64 xf, Value.bool xs] 27)  ;clear ht3 hr3 hst3 hfr3 hB3 hB1  ;obtain ⟨tc0, tc1, tc2, tc3, tc4, tc5, tc6, tc7, tc8⟩ := tel_cells ht4  ;have sc0 := hst4.cell 0  ;have sc1 := hst4.cell 1  ;have sc2 := hst4.cell 2  ;simp only [List.getElem?_cons_succ, List.getElem?_cons_zero] at sc0 sc1 sc2  ;go_wp2_with fail  ;clear tc0 tc1 tc2 tc3 tc4 tc5 tc6 tc7 tc8 sc0 sc1 sc2  ;refine (HQ.out _).mono ?_  ;generalize w4.heap.size = xb at *  ;rintro e0 w6 ⟨rfl, hB1⟩  ;have hly := (hx.below hB1 hx.lt).lt  ;have hr6 := (hr4.below hB1 hr4.lt).alloc (Obj.cells #[Value.int .i64 ya, Value.int .i64 yf, Value.bool ys] 27)  ;have hx6 := (hx.below hB1 hx.lt).alloc (Obj.cells #[Value.int .i64 ya, Value.int .i64 yf, Value.bool ys] 27)  ;have hy := Blk.new w6 #[Value.int .i64 ya, Value.int .i64 yf, Value.bool ys] 27  ;have hB6 := (hB4.trans (hB1.mono hB4.size)).alloc (by have := hB4.size; have := hB1.size; omega) (Obj.cells #[Value.int .i64 ya, Value.int .i64 yf, Value.bool ys] 27)  ;clear hB4 hB1 ht4 hr4 hst4 hx  ;have rc1 := hr6.cell 1  ;have xc0 := hx6.cell 0  ;have xc1 := hx6.cell 1  ;have xc2 := hx6.cell 2  ;have xz2 := hx6.free 2  ;have yc0 := hy.cell 0  ;have yc1 := hy.cell 1  ;have yc2 := hy.cell 2  ;simp only [List.getElem?_cons_succ, List.getElem?_cons_zero] at rc1 xc0 xc1 xc2 yc0 yc1 yc2  ;clear hr6 hx6 hy
    obtain ⟨e1, e2⟩ | ⟨hf, e2, ⟨xa', xf', xs'⟩, n', e', e1, he⟩ | ⟨hf, p, n', e1, e2⟩ | ⟨hf, e1, e2⟩ := HC.out
    · simp only [rig0, Prod.mk.injEq, RigT.mk.injEq] at e1 e2
      obtain ⟨⟨rfl, rfl, rfl⟩, rfl, rfl⟩ := e1
      obtain ⟨⟨rfl, rfl, rfl⟩, rfl, rfl⟩ := e2
      go_wp2_with fail
      go_ret
      exact ⟨ret_bool (by first | rfl | simp), hB6⟩
    · simp only [rig0, Prod.mk.injEq, RigT.mk.injEq] at e1 e2
      obtain ⟨⟨rfl, rfl, rfl⟩, rfl, rfl⟩ := e1
      obtain ⟨⟨rfl, rfl, rfl⟩, rfl, rfl⟩ := e2
      have hf1 : (f != r.filter) = true := by rw [bne_iff_ne]; exact hf
      clear hf
      rcases he with rfl | rfl
      · go_wp2_with fail
        go_ret
        exact ⟨ret_bool (by first | rfl | simp), hB6⟩
      · go_wp2_with fail
        go_ret
        exact ⟨ret_bool (by first | rfl | simp), hB6⟩
    · simp only [Prod.mk.injEq, RigT.mk.injEq] at e1 e2
      have hf1 : (f != r.filter) = false := by rw [hf]; simp
      have hne3 : xb ≠ w6.heap.size := by omega
      clear hf hly
      obtain ⟨⟨rfl, rfl, rfl⟩, rfl, rfl⟩ := e1
      obtain ⟨⟨rfl, rfl, rfl⟩, rfl, rfl⟩ := e2
      go_wp2_with fail
      go_ret
      exact ⟨ret_bool (by first | rfl | simp), hB6.setCell (p := ⟨xb, 2, none⟩) (by show w.heap.size ≤ xb; omega) _⟩
    · simp only [rig0, Prod.mk.injEq, RigT.mk.injEq] at e1 e2
      obtain ⟨⟨rfl, rfl, rfl⟩, rfl, rfl⟩ := e1
      obtain ⟨⟨rfl, rfl, rfl⟩, rfl, rfl⟩ := e2
      have hf1 : (f != r.filter) = false := by rw [hf]; simp
      clear hf
      go_wp2_with fail
      go_ret
      exact ⟨ret_bool (by first | rfl | simp), hB6⟩
theorem stuck_fin (t : Tel) (r : RigT) (c f : Int) (w : World) (h : TelWf t) (_h1 : RigWf r) (_h2 : (Lit.int .i64 c).wf = true) (_h3 : (Lit.int .i64 f).wf = true) :
    Calls Tryd.prog 7 #[telV t, rigV r, .int .i64 c, .int .i64 f] w fun e w' => e = .returned (.bool true) ∧ Below w.heap.size w w' := stuck_walk t r c f w h.id
end Go.Proofs.YthnkahilaampmaaDoor
