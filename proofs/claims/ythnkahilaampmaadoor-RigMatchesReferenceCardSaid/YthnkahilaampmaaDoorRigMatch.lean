/- rig: the statement RigMatchesReference -/
import Derived.Test.YthnkahilaampmaaDoorRigRef2
import Derived.Lib.QuietBelow
namespace Go.Proofs.YthnkahilaampmaaDoor
open Go.RowKit


set_option maxHeartbeats 4000000 in
set_option maxRecDepth 100000 in
theorem match_walk (t : Tel) (r : RigT) (c f o : Int) (w : World) (hs : t.id.size ≤ maxLen) : Calls Tryd.prog 3 #[telV t, rigV r, .int .i64 c, .int .i64 f, .int .i64 o] w fun e w' => e = .returned (.bool true) ∧ Below w.heap.size w w' := by
  by_cases h60 : t.id.size ≤ 60
  · have HF := hid (fun w => few_lit (t := t) (b := true) hs (decide_eq_true h60) w)
    have hs' : t.id.size ≤ 1000000 := by omega
    have hs2 : t.id.size ≤ 20000 := by omega
    have hP1 := fun w => prep_any t r c f w hs'
    have hP2 := fun w => rprep_any t r c f w hs2
    have HT := hid (fun w => turn_any t f o w hs')
    have HT2 := hid (fun w => rturn_any t f o w hs2)
    have HV := hid (fun w => valid_any t r w hs')
    have HV2 := hid (fun w => rvalid_any t r w hs2)
    generalize tV t f o = tv at *
    generalize tE t f o = te at *
    generalize validB t r = vb at *
    generalize (prepR t r c f).2.2 = er at *
    generalize (prepR t r c f).2.1 = n at *
    generalize (prepR t r c f).1 = x at *
    obtain ⟨xa, xf, xs⟩ := x
    have e : rigV ⟨xa, xf, xs⟩ = .agg #[.int .i64 xa, .int .i64 xf, .bool xs] := rfl
    rw [e] at hP1 hP2
    have HP := hid hP1
    have HQ := hid hP2
    clear h60 hs hs' hs2 e hP1 hP2
    rw [telV_eq, rigV_eq] at *
    go_enter Tryd.func3, Tryd.ntmps3  ;go_wp2_with fail  ;obtain ⟨w0, hw0, ht, hr, hB⟩ := telrig_world t r w  ;rw [hw0]  ;clear hw0  ;refine (head_any _).mono ?_  ;rintro e w' ⟨rfl, hB1⟩  ;replace ht := ht.below hB1 ht.lt  ;replace hr := hr.below hB1 hr.lt  ;replace hB := hB.trans (hB1.mono hB.size)  ;clear hB1  ;obtain ⟨tc0, tc1, tc2, tc3, tc4, tc5, tc6, tc7, tc8⟩ := tel_cells ht  ;obtain ⟨rc0, rc1, rc2⟩ := rig_cells hr  ;go_wp2_with fail  ;clear tc0 tc1 tc2 tc3 tc4 tc5 tc6 tc7 tc8 rc0 rc1 rc2  ;refine (HF.out _).mono ?_  ;rintro e w' ⟨rfl, hB1⟩  ;replace ht := ht.below hB1 ht.lt  ;replace hr := hr.below hB1 hr.lt  ;replace hB := hB.trans (hB1.mono hB.size)  ;clear hB1  ;obtain ⟨tc0, tc1, tc2, tc3, tc4, tc5, tc6, tc7, tc8⟩ := tel_cells ht  ;obtain ⟨rc0, rc1, rc2⟩ := rig_cells hr  ;go_wp2_with fail  ;clear tc0 tc1 tc2 tc3 tc4 tc5 tc6 tc7 tc8 rc0 rc1 rc2
    refine (HT.out _).mono ?_
    rintro e w' ⟨rfl, hB1⟩  ;replace ht := ht.below hB1 ht.lt  ;replace hr := hr.below hB1 hr.lt  ;replace hB := hB.trans (hB1.mono hB.size)  ;clear hB1  ;obtain ⟨tc0, tc1, tc2, tc3, tc4, tc5, tc6, tc7, tc8⟩ := tel_cells ht  ;obtain ⟨rc0, rc1, rc2⟩ := rig_cells hr  ;go_wp2_with fail  ;clear tc0 tc1 tc2 tc3 tc4 tc5 tc6 tc7 tc8 rc0 rc1 rc2
    refine (HT2.out _).mono ?_
    rintro e w' ⟨rfl, hB1⟩  ;replace ht := ht.below hB1 ht.lt  ;replace hr := hr.below hB1 hr.lt  ;replace hB := hB.trans (hB1.mono hB.size)  ;clear hB1  ;obtain ⟨tc0, tc1, tc2, tc3, tc4, tc5, tc6, tc7, tc8⟩ := tel_cells ht  ;obtain ⟨rc0, rc1, rc2⟩ := rig_cells hr  ;go_wp2_with fail  ;clear tc0 tc1 tc2 tc3 tc4 tc5 tc6 tc7 tc8 rc0 rc1 rc2
    refine (HP.out _).mono ?_
    rintro e w' ⟨rfl, hB1⟩  ;replace ht := (ht.below hB1 ht.lt).alloc (Obj.cells #[Value.int .i64 xa, Value.int .i64 xf, Value.bool xs] 27)  ;replace hr := (hr.below hB1 hr.lt).alloc (Obj.cells #[Value.int .i64 xa, Value.int .i64 xf, Value.bool xs] 27)  ;have hx := Blk.new w' #[Value.int .i64 xa, Value.int .i64 xf, Value.bool xs] 27  ;replace hB := (hB.trans (hB1.mono hB.size)).alloc (by have := hB.size; have := hB1.size; omega) (Obj.cells #[Value.int .i64 xa, Value.int .i64 xf, Value.bool xs] 27)  ;clear hB1  ;obtain ⟨tc0, tc1, tc2, tc3, tc4, tc5, tc6, tc7, tc8⟩ := tel_cells ht  ;obtain ⟨rc0, rc1, rc2⟩ := rig_cells hr  ;have xc0 := hx.cell 0  ;have xc1 := hx.cell 1  ;have xc2 := hx.cell 2  ;simp only [List.getElem?_cons_succ, List.getElem?_cons_zero] at xc0 xc1 xc2  ;go_wp2_with fail  ;generalize w'.heap.size = xb at *  ;clear tc0 tc1 tc2 tc3 tc4 tc5 tc6 tc7 tc8 rc0 rc1 rc2  ;clear xc0 xc1 xc2
    refine (HQ.out _).mono ?_
    rintro e w' ⟨rfl, hB1⟩  ;replace ht := (ht.below hB1 ht.lt).alloc (Obj.cells #[Value.int .i64 xa, Value.int .i64 xf, Value.bool xs] 27)  ;replace hr := (hr.below hB1 hr.lt).alloc (Obj.cells #[Value.int .i64 xa, Value.int .i64 xf, Value.bool xs] 27)  ;replace hx := (hx.below hB1 hx.lt).alloc (Obj.cells #[Value.int .i64 xa, Value.int .i64 xf, Value.bool xs] 27)  ;have hy := Blk.new w' #[Value.int .i64 xa, Value.int .i64 xf, Value.bool xs] 27  ;replace hB := (hB.trans (hB1.mono hB.size)).alloc (by have := hB.size; have := hB1.size; omega) (Obj.cells #[Value.int .i64 xa, Value.int .i64 xf, Value.bool xs] 27)  ;clear hB1  ;obtain ⟨tc0, tc1, tc2, tc3, tc4, tc5, tc6, tc7, tc8⟩ := tel_cells ht  ;obtain ⟨rc0, rc1, rc2⟩ := rig_cells hr  ;have xc0 := hx.cell 0  ;have xc1 := hx.cell 1  ;have xc2 := hx.cell 2  ;simp only [List.getElem?_cons_succ, List.getElem?_cons_zero] at xc0 xc1 xc2  ;have yc0 := hy.cell 0  ;have yc1 := hy.cell 1  ;have yc2 := hy.cell 2  ;simp only [List.getElem?_cons_succ, List.getElem?_cons_zero] at yc0 yc1 yc2  ;go_wp2_with fail  ;generalize w'.heap.size = yb at *  ;clear tc0 tc1 tc2 tc3 tc4 tc5 tc6 tc7 tc8 rc0 rc1 rc2  ;clear xc0 xc1 xc2  ;clear yc0 yc1 yc2
    generalize (w'.alloc (Obj.cells #[Value.int .i64 xa, Value.int .i64 xf, Value.bool xs] 27)) = wz at *
    obtain ⟨tc0, tc1, tc2, tc3, tc4, tc5, tc6, tc7, tc8⟩ := tel_cells ht  ;obtain ⟨rc0, rc1, rc2⟩ := rig_cells hr
    have xc0 := hx.cell 0  ;have xc1 := hx.cell 1  ;have xc2 := hx.cell 2  ;simp only [List.getElem?_cons_succ, List.getElem?_cons_zero] at xc0 xc1 xc2
    have yc0 := hy.cell 0  ;have yc1 := hy.cell 1  ;have yc2 := hy.cell 2  ;simp only [List.getElem?_cons_succ, List.getElem?_cons_zero] at yc0 yc1 yc2
    have k0 := cell_regrown tc0
    have k1 := cell_regrown tc1
    have k2 := cell_regrown tc2
    have k3 := cell_regrown tc3
    have k4 := cell_regrown tc4
    have k5 := cell_regrown tc5
    have k6 := cell_regrown tc6
    have k7 := cell_regrown tc7
    have k8 := cell_regrown tc8
    have l0 := cell_regrown rc0
    have l1 := cell_regrown rc1
    have l2 := cell_regrown rc2
    have m0 := cell_regrown xc0
    have m1 := cell_regrown xc1
    have m2 := cell_regrown xc2
    have n0 := cell_regrown yc0
    have n1 := cell_regrown yc1
    have n2 := cell_regrown yc2
    have cV := hid (fun d os => Calls.regrown_of (HV.out (Go.Sort.grow (redrawn wz d) os)))
    have cV2 := hid (fun d os => Calls.regrown_of (HV2.out (Go.Sort.grow (redrawn wz d) os)))
    clear tc0 tc1 tc2 tc3 tc4 tc5 tc6 tc7 tc8 rc0 rc1 rc2
    clear xc0 xc1 xc2
    clear yc0 yc1 yc2
    refine wp_region_quiet_below (by kernel_rfl) (by kernel_rfl) ?_
    repeat (first | go_big_quiet_step (first | exact cV.out _ _ | exact cV2.out _ _) | quiet_step (first | exact cV.out _ _ | exact cV2.out _ _))
    refine wpQuiet_nil ?_
    intro _ hw'
    obtain ⟨⟨dq, osq⟩, hw''⟩ := hw'
    subst hw''
    go_wp2_with fail
    go_ret
    exact ⟨ret_bool (by first | rfl | (simp; done)), hB.trans ((below_regrown wz dq osq).mono hB.size)⟩
  · have HF := hid (fun w => few_lit (t := t) (b := false) hs (decide_eq_false h60) w)
    clear h60 hs
    rw [telV_eq, rigV_eq] at *
    go_enter Tryd.func3, Tryd.ntmps3  ;go_wp2_with fail  ;obtain ⟨w0, hw0, ht, hr, hB⟩ := telrig_world t r w  ;rw [hw0]  ;clear hw0  ;refine (head_any _).mono ?_  ;rintro e w' ⟨rfl, hB1⟩  ;replace ht := ht.below hB1 ht.lt  ;replace hr := hr.below hB1 hr.lt  ;replace hB := hB.trans (hB1.mono hB.size)  ;clear hB1  ;obtain ⟨tc0, tc1, tc2, tc3, tc4, tc5, tc6, tc7, tc8⟩ := tel_cells ht  ;obtain ⟨rc0, rc1, rc2⟩ := rig_cells hr  ;go_wp2_with fail  ;clear tc0 tc1 tc2 tc3 tc4 tc5 tc6 tc7 tc8 rc0 rc1 rc2  ;refine (HF.out _).mono ?_  ;rintro e w' ⟨rfl, hB1⟩  ;replace ht := ht.below hB1 ht.lt  ;replace hr := hr.below hB1 hr.lt  ;replace hB := hB.trans (hB1.mono hB.size)  ;clear hB1  ;obtain ⟨tc0, tc1, tc2, tc3, tc4, tc5, tc6, tc7, tc8⟩ := tel_cells ht  ;obtain ⟨rc0, rc1, rc2⟩ := rig_cells hr  ;go_wp2_with fail  ;clear tc0 tc1 tc2 tc3 tc4 tc5 tc6 tc7 tc8 rc0 rc1 rc2
    go_ret
    exact ⟨ret_bool (by first | rfl | simp), hB⟩
theorem match_fin (t : Tel) (r : RigT) (c f o : Int) (w : World) (h : TelWf t) (_h1 : RigWf r) (_h2 : (Lit.int .i64 c).wf = true) (_h3 : (Lit.int .i64 f).wf = true) (_h4 : (Lit.int .i64 o).wf = true) :
    Calls Tryd.prog 3 #[telV t, rigV r, .int .i64 c, .int .i64 f, .int .i64 o] w fun e w' => e = .returned (.bool true) ∧ Below w.heap.size w w' := match_walk t r c f o w h.id
end Go.Proofs.YthnkahilaampmaaDoor
