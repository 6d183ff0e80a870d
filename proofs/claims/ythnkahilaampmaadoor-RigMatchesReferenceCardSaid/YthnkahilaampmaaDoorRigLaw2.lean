/- rig: the statement RigPrepares -/
import Derived.Test.YthnkahilaampmaaDoorRigOpen
import Derived.Test.YthnkahilaampmaaDoorRigPure
namespace Go.Proofs.YthnkahilaampmaaDoor
open Go.RowKit

theorem move_lit {a c p d : Int} (hk : planOk a [c] = true) (hp : (planL a [c]).headD 0 = p) (hd : lenF [c] a = d) (w : World) : Calls Tryd.prog 17 #[.int .i64 a, .int .i64 c] w fun e w' => e = .returned (.tuple #[.int .i64 p, .int .i64 d, .int .i64 0]) ∧ Below w.heap.size w w' := by
  subst hp hd; exact move_yes a c w hk


set_option maxHeartbeats 4000000 in
set_option maxRecDepth 100000 in
theorem prepares_walk (t : Tel) (r : RigT) (c f : Int) (w : World) (hs : t.id.size ≤ maxLen) : Calls Tryd.prog 5 #[telV t, rigV r, .int .i64 c, .int .i64 f] w fun e w' => e = .returned (.bool true) ∧ Below w.heap.size w w' := by
  by_cases h60 : t.id.size ≤ 60
  · have HF := hid (fun w => few_lit (t := t) (b := true) hs (decide_eq_true h60) w)
    have hs' : t.id.size ≤ 1000000 := by omega
    by_cases he : (prepR t r c f).2.2 = 0
    · obtain ⟨x, n, e⟩ : ∃ x n, prepR t r c f = (x, n, 0) := ⟨_, _, by rw [← he]⟩
      obtain ⟨hok, rfl, rfl, n60, n0, _, _⟩ := prep_zero e
      obtain ⟨hv, hf, hc, hk⟩ := ok_parts hok
      obtain ⟨_, _, htl, hrf⟩ := validB_at hv
      obtain ⟨s1, s2⟩ := teleB_speed htl
      obtain ⟨d1, p1, p2, _⟩ := prep_pd hk
      have htb : turnB t r.filter f = true := turnB_parts.2 ⟨htl, hrf, hf⟩
      obtain ⟨te, tv⟩ := tE_good htb
      have HP := hid (fun w => prep_lit (v := .agg #[.int .i64 (prepP c r), .int .i64 f, .bool r.stuck]) hs' e rfl w)
      have HM := hid (fun w => move_lit (p := prepP c r) (d := prepD c r) hk rfl rfl w)
      have HT := hid (fun w => turn_lit hs' tv te w)
      have HV := hid (fun w => valid_lit hs' (validB_mk hv (prepP c r) f r.stuck ⟨p1, p2⟩ hf) w)
      have hd0 : 0 ≤ prepD c r := by omega
      have hd1 : prepD c r ≤ 96 := by
        obtain ⟨a1, a2, _, _⟩ := validB_at hv
        omega
      have hm1 : 0 ≤ t.speed * prepD c r := Int.mul_nonneg (by omega) hd0
      have hm2 : t.speed * prepD c r ≤ 20 * 96 := Int.mul_le_mul (by omega) (by omega) hd0 (by omega)
      generalize prepP c r = p at *
      generalize prepD c r = d at *
      generalize turnV t r.filter f = tv at *
      clear h60 hs hs' e he hok hv hf hc hk htl hrf htb te d1
      rw [telV_eq, rigV_eq] at *
      dsimp only at HV
      go_enter Tryd.func5, Tryd.ntmps5  ;go_wp2_with fail  ;obtain ⟨w0, hw0, ht, hr, hB⟩ := telrig_world t r w  ;rw [hw0]  ;clear hw0  ;refine (head_any _).mono ?_  ;rintro e w' ⟨rfl, hB1⟩  ;replace ht := ht.below hB1 ht.lt  ;replace hr := hr.below hB1 hr.lt  ;replace hB := hB.trans (hB1.mono hB.size)  ;clear hB1  ;obtain ⟨tc0, tc1, tc2, tc3, tc4, tc5, tc6, tc7, tc8⟩ := tel_cells ht  ;obtain ⟨rc0, rc1, rc2⟩ := rig_cells hr  ;go_wp2_with fail  ;clear tc0 tc1 tc2 tc3 tc4 tc5 tc6 tc7 tc8 rc0 rc1 rc2  ;refine (HF.out _).mono ?_  ;rintro e w' ⟨rfl, hB1⟩  ;replace ht := ht.below hB1 ht.lt  ;replace hr := hr.below hB1 hr.lt  ;replace hB := hB.trans (hB1.mono hB.size)  ;clear hB1  ;obtain ⟨tc0, tc1, tc2, tc3, tc4, tc5, tc6, tc7, tc8⟩ := tel_cells ht  ;obtain ⟨rc0, rc1, rc2⟩ := rig_cells hr  ;go_wp2_with fail  ;clear tc0 tc1 tc2 tc3 tc4 tc5 tc6 tc7 tc8 rc0 rc1 rc2
      refine (HP.out _).mono ?_
      rintro e w' ⟨rfl, hB1⟩  ;replace ht := (ht.below hB1 ht.lt).alloc (Obj.cells #[Value.int .i64 p, Value.int .i64 f, Value.bool r.stuck] 27)  ;replace hr := (hr.below hB1 hr.lt).alloc (Obj.cells #[Value.int .i64 p, Value.int .i64 f, Value.bool r.stuck] 27)  ;have hx := Blk.new w' #[Value.int .i64 p, Value.int .i64 f, Value.bool r.stuck] 27  ;replace hB := (hB.trans (hB1.mono hB.size)).alloc (by have := hB.size; have := hB1.size; omega) (Obj.cells #[Value.int .i64 p, Value.int .i64 f, Value.bool r.stuck] 27)  ;clear hB1  ;obtain ⟨tc0, tc1, tc2, tc3, tc4, tc5, tc6, tc7, tc8⟩ := tel_cells ht  ;obtain ⟨rc0, rc1, rc2⟩ := rig_cells hr  ;have xc0 := hx.cell 0  ;have xc1 := hx.cell 1  ;have xc2 := hx.cell 2  ;simp only [List.getElem?_cons_succ, List.getElem?_cons_zero] at xc0 xc1 xc2  ;go_wp2_with fail  ;clear tc0 tc1 tc2 tc3 tc4 tc5 tc6 tc7 tc8 rc0 rc1 rc2
      refine (HM.out _).mono ?_
      rintro e w' ⟨rfl, hB1⟩  ;replace ht := ht.below hB1 ht.lt  ;replace hr := hr.below hB1 hr.lt  ;replace hx := hx.below hB1 hx.lt  ;replace hB := hB.trans (hB1.mono hB.size)  ;clear hB1 xc0 xc1 xc2  ;obtain ⟨tc0, tc1, tc2, tc3, tc4, tc5, tc6, tc7, tc8⟩ := tel_cells ht  ;obtain ⟨rc0, rc1, rc2⟩ := rig_cells hr  ;have xc0 := hx.cell 0  ;have xc1 := hx.cell 1  ;have xc2 := hx.cell 2  ;simp only [List.getElem?_cons_succ, List.getElem?_cons_zero] at xc0 xc1 xc2  ;go_wp2_with fail  ;clear tc0 tc1 tc2 tc3 tc4 tc5 tc6 tc7 tc8 rc0 rc1 rc2
      refine (HT.out _).mono ?_
      rintro e w' ⟨rfl, hB1⟩  ;replace ht := ht.below hB1 ht.lt  ;replace hr := hr.below hB1 hr.lt  ;replace hx := hx.below hB1 hx.lt  ;replace hB := hB.trans (hB1.mono hB.size)  ;clear hB1 xc0 xc1 xc2  ;obtain ⟨tc0, tc1, tc2, tc3, tc4, tc5, tc6, tc7, tc8⟩ := tel_cells ht  ;obtain ⟨rc0, rc1, rc2⟩ := rig_cells hr  ;have xc0 := hx.cell 0  ;have xc1 := hx.cell 1  ;have xc2 := hx.cell 2  ;simp only [List.getElem?_cons_succ, List.getElem?_cons_zero] at xc0 xc1 xc2  ;go_wp2_with fail  ;clear tc0 tc1 tc2 tc3 tc4 tc5 tc6 tc7 tc8 rc0 rc1 rc2
      refine (HV.out _).mono ?_
      rintro e w' ⟨rfl, hB1⟩  ;replace ht := ht.below hB1 ht.lt  ;replace hr := hr.below hB1 hr.lt  ;replace hx := hx.below hB1 hx.lt  ;replace hB := hB.trans (hB1.mono hB.size)  ;clear hB1 xc0 xc1 xc2  ;obtain ⟨tc0, tc1, tc2, tc3, tc4, tc5, tc6, tc7, tc8⟩ := tel_cells ht  ;obtain ⟨rc0, rc1, rc2⟩ := rig_cells hr  ;have xc0 := hx.cell 0  ;have xc1 := hx.cell 1  ;have xc2 := hx.cell 2  ;simp only [List.getElem?_cons_succ, List.getElem?_cons_zero] at xc0 xc1 xc2  ;go_wp2_with fail  ;clear tc0 tc1 tc2 tc3 tc4 tc5 tc6 tc7 tc8 rc0 rc1 rc2
      go_ret
      exact ⟨ret_bool (by first | rfl | (simp [*])), hB⟩
    · obtain ⟨e1, _⟩ := prep_err he
      have HP := hid (fun w => prep_lit (v := .agg #[.int .i64 0, .int .i64 0, .bool false]) hs' e1 rfl w)
      have hb : ((prepR t r c f).2.2 != 0) = true := by rw [bne_iff_ne]; exact he
      generalize (prepR t r c f).2.2 = er at *
      clear h60 hs hs' e1 he
      rw [telV_eq, rigV_eq] at *
      go_enter Tryd.func5, Tryd.ntmps5  ;go_wp2_with fail  ;obtain ⟨w0, hw0, ht, hr, hB⟩ := telrig_world t r w  ;rw [hw0]  ;clear hw0  ;refine (head_any _).mono ?_  ;rintro e w' ⟨rfl, hB1⟩  ;replace ht := ht.below hB1 ht.lt  ;replace hr := hr.below hB1 hr.lt  ;replace hB := hB.trans (hB1.mono hB.size)  ;clear hB1  ;obtain ⟨tc0, tc1, tc2, tc3, tc4, tc5, tc6, tc7, tc8⟩ := tel_cells ht  ;obtain ⟨rc0, rc1, rc2⟩ := rig_cells hr  ;go_wp2_with fail  ;clear tc0 tc1 tc2 tc3 tc4 tc5 tc6 tc7 tc8 rc0 rc1 rc2  ;refine (HF.out _).mono ?_  ;rintro e w' ⟨rfl, hB1⟩  ;replace ht := ht.below hB1 ht.lt  ;replace hr := hr.below hB1 hr.lt  ;replace hB := hB.trans (hB1.mono hB.size)  ;clear hB1  ;obtain ⟨tc0, tc1, tc2, tc3, tc4, tc5, tc6, tc7, tc8⟩ := tel_cells ht  ;obtain ⟨rc0, rc1, rc2⟩ := rig_cells hr  ;go_wp2_with fail  ;clear tc0 tc1 tc2 tc3 tc4 tc5 tc6 tc7 tc8 rc0 rc1 rc2
      refine (HP.out _).mono ?_
      rintro e w' ⟨rfl, hB1⟩  ;replace ht := (ht.below hB1 ht.lt).alloc (Obj.cells #[Value.int .i64 0, Value.int .i64 0, Value.bool false] 27)  ;replace hr := (hr.below hB1 hr.lt).alloc (Obj.cells #[Value.int .i64 0, Value.int .i64 0, Value.bool false] 27)  ;have hx := Blk.new w' #[Value.int .i64 0, Value.int .i64 0, Value.bool false] 27  ;replace hB := (hB.trans (hB1.mono hB.size)).alloc (by have := hB.size; have := hB1.size; omega) (Obj.cells #[Value.int .i64 0, Value.int .i64 0, Value.bool false] 27)  ;clear hB1  ;obtain ⟨tc0, tc1, tc2, tc3, tc4, tc5, tc6, tc7, tc8⟩ := tel_cells ht  ;obtain ⟨rc0, rc1, rc2⟩ := rig_cells hr  ;have xc0 := hx.cell 0  ;have xc1 := hx.cell 1  ;have xc2 := hx.cell 2  ;simp only [List.getElem?_cons_succ, List.getElem?_cons_zero] at xc0 xc1 xc2  ;go_wp2_with fail  ;clear tc0 tc1 tc2 tc3 tc4 tc5 tc6 tc7 tc8 rc0 rc1 rc2
      go_ret
      exact ⟨ret_bool (by first | rfl | simp), hB⟩
  · have HF := hid (fun w => few_lit (t := t) (b := false) hs (decide_eq_false h60) w)
    clear h60 hs
    rw [telV_eq, rigV_eq] at *
    go_enter Tryd.func5, Tryd.ntmps5  ;go_wp2_with fail  ;obtain ⟨w0, hw0, ht, hr, hB⟩ := telrig_world t r w  ;rw [hw0]  ;clear hw0  ;refine (head_any _).mono ?_  ;rintro e w' ⟨rfl, hB1⟩  ;replace ht := ht.below hB1 ht.lt  ;replace hr := hr.below hB1 hr.lt  ;replace hB := hB.trans (hB1.mono hB.size)  ;clear hB1  ;obtain ⟨tc0, tc1, tc2, tc3, tc4, tc5, tc6, tc7, tc8⟩ := tel_cells ht  ;obtain ⟨rc0, rc1, rc2⟩ := rig_cells hr  ;go_wp2_with fail  ;clear tc0 tc1 tc2 tc3 tc4 tc5 tc6 tc7 tc8 rc0 rc1 rc2  ;refine (HF.out _).mono ?_  ;rintro e w' ⟨rfl, hB1⟩  ;replace ht := ht.below hB1 ht.lt  ;replace hr := hr.below hB1 hr.lt  ;replace hB := hB.trans (hB1.mono hB.size)  ;clear hB1  ;obtain ⟨tc0, tc1, tc2, tc3, tc4, tc5, tc6, tc7, tc8⟩ := tel_cells ht  ;obtain ⟨rc0, rc1, rc2⟩ := rig_cells hr  ;go_wp2_with fail  ;clear tc0 tc1 tc2 tc3 tc4 tc5 tc6 tc7 tc8 rc0 rc1 rc2
    go_ret
    exact ⟨ret_bool (by first | rfl | simp), hB⟩
theorem prepares_fin (t : Tel) (r : RigT) (c f : Int) (w : World) (h : TelWf t) (_h1 : RigWf r) (_h2 : (Lit.int .i64 c).wf = true) (_h3 : (Lit.int .i64 f).wf = true) :
    Calls Tryd.prog 5 #[telV t, rigV r, .int .i64 c, .int .i64 f] w fun e w' => e = .returned (.bool true) ∧ Below w.heap.size w w' := prepares_walk t r c f w h.id
end Go.Proofs.YthnkahilaampmaaDoor
