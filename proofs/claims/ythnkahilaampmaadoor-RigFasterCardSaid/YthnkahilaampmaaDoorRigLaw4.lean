/- rig: the statement RigFaster -/
import Derived.Test.YthnkahilaampmaaDoorRigLaw2
namespace Go.Proofs.YthnkahilaampmaaDoor
open Go.RowKit




/-- a slower telescope -/
def slow (t : Tel) (s : Int) : Tel := { t with speed := s }
theorem prep_slow {t : Tel} {r : RigT} {c f n s : Int} {x : RigT} (h : prepR t r c f = (x, n, 0)) (h1 : 1 ≤ s) (h2 : s ≤ t.speed) : ∃ m, prepR (slow t s) r c f = (x, m, 0) ∧ m ≤ n := by
  obtain ⟨hok, rfl, hn, n60, n0, hz, hor⟩ := prep_zero h
  obtain ⟨hv, hf, hc, hk⟩ := ok_parts hok
  obtain ⟨a1, a2, htl, hrf⟩ := validB_at hv
  obtain ⟨s1, s2⟩ := teleB_speed htl
  obtain ⟨d1, p1, p2, _⟩ := prep_pd hk
  have hd0 : 0 ≤ prepD c r := by omega
  have hv2 : validB (slow t s) r = true := by
    have htl2 : teleB (slow t s) = true := by
      unfold teleB slow at *
      simp only [Bool.and_eq_true, decide_eq_true_eq] at htl ⊢
      exact ⟨⟨htl.1.1, h1, by omega⟩, htl.2⟩
    have e : flB (slow t s) r.filter = flB t r.filter := rfl
    unfold validB
    rw [htl2, e, hrf]
    simp [a1, a2]
  have hf2 : flB (slow t s) f = true := hf
  have htv : turnV (slow t s) r.filter f = turnV t r.filter f := rfl
  have hm : s * prepD c r ≤ t.speed * prepD c r := Int.mul_le_mul_of_nonneg_right h2 hd0
  have hm0 : 0 ≤ s * prepD c r := Int.mul_nonneg (by omega) hd0
  unfold prepR
  rw [hv2, hf2, hc, htv]
  simp only [Bool.and_self, if_true]
  have hsp : (slow t s).speed = s := rfl
  rw [hsp]
  by_cases hs : prepP c r = r.at_ ∧ f = r.filter
  · rw [if_pos hs]; exact ⟨0, rfl, n0⟩
  · rw [if_neg hs, if_neg (fun h => by rcases hor with e | e; exact h.2 e; rw [e] at h; exact absurd h.1 (by decide)), if_neg (by omega)]
    exact ⟨_, rfl, by omega⟩

set_option maxHeartbeats 4000000 in
set_option maxRecDepth 100000 in
theorem faster_walk (t : Tel) (r : RigT) (c f s : Int) (w : World) (hs : t.id.size ≤ maxLen) : Calls Tryd.prog 8 #[telV t, rigV r, .int .i64 c, .int .i64 f, .int .i64 s] w fun e w' => e = .returned (.bool true) ∧ Below w.heap.size w w' := by
  by_cases h60 : t.id.size ≤ 60
  · have HF := hid (fun w => few_lit (t := t) (b := true) hs (decide_eq_true h60) w)
    have hs' : t.id.size ≤ 1000000 := by omega
    by_cases h1 : s < 1
    · clear h60 hs hs'
      rw [telV_eq, rigV_eq] at *
      go_enter Tryd.func8, Tryd.ntmps8  ;go_wp2_with fail  ;obtain ⟨w0, hw0, ht, hr, hB⟩ := telrig_world t r w  ;rw [hw0]  ;clear hw0  ;refine (head_any _).mono ?_  ;rintro e w' ⟨rfl, hB1⟩  ;replace ht := ht.below hB1 ht.lt  ;replace hr := hr.below hB1 hr.lt  ;replace hB := hB.trans (hB1.mono hB.size)  ;clear hB1  ;obtain ⟨tc0, tc1, tc2, tc3, tc4, tc5, tc6, tc7, tc8⟩ := tel_cells ht  ;obtain ⟨rc0, rc1, rc2⟩ := rig_cells hr  ;go_wp2_with fail  ;clear tc0 tc1 tc2 tc3 tc4 tc5 tc6 tc7 tc8 rc0 rc1 rc2  ;refine (HF.out _).mono ?_  ;rintro e w' ⟨rfl, hB1⟩  ;replace ht := ht.below hB1 ht.lt  ;replace hr := hr.below hB1 hr.lt  ;replace hB := hB.trans (hB1.mono hB.size)  ;clear hB1  ;obtain ⟨tc0, tc1, tc2, tc3, tc4, tc5, tc6, tc7, tc8⟩ := tel_cells ht  ;obtain ⟨rc0, rc1, rc2⟩ := rig_cells hr  ;go_wp2_with fail  ;clear tc0 tc1 tc2 tc3 tc4 tc5 tc6 tc7 tc8 rc0 rc1 rc2
      go_ret
      exact ⟨ret_bool (by first | rfl | simp), hB⟩
    by_cases h2 : t.speed < s
    · clear h60 hs hs'
      rw [telV_eq, rigV_eq] at *
      go_enter Tryd.func8, Tryd.ntmps8  ;go_wp2_with fail  ;obtain ⟨w0, hw0, ht, hr, hB⟩ := telrig_world t r w  ;rw [hw0]  ;clear hw0  ;refine (head_any _).mono ?_  ;rintro e w' ⟨rfl, hB1⟩  ;replace ht := ht.below hB1 ht.lt  ;replace hr := hr.below hB1 hr.lt  ;replace hB := hB.trans (hB1.mono hB.size)  ;clear hB1  ;obtain ⟨tc0, tc1, tc2, tc3, tc4, tc5, tc6, tc7, tc8⟩ := tel_cells ht  ;obtain ⟨rc0, rc1, rc2⟩ := rig_cells hr  ;go_wp2_with fail  ;clear tc0 tc1 tc2 tc3 tc4 tc5 tc6 tc7 tc8 rc0 rc1 rc2  ;refine (HF.out _).mono ?_  ;rintro e w' ⟨rfl, hB1⟩  ;replace ht := ht.below hB1 ht.lt  ;replace hr := hr.below hB1 hr.lt  ;replace hB := hB.trans (hB1.mono hB.size)  ;clear hB1  ;obtain ⟨tc0, tc1, tc2, tc3, tc4, tc5, tc6, tc7, tc8⟩ := tel_cells ht  ;obtain ⟨rc0, rc1, rc2⟩ := rig_cells hr  ;go_wp2_with fail  ;clear tc0 tc1 tc2 tc3 tc4 tc5 tc6 tc7 tc8 rc0 rc1 rc2
      go_ret
      exact ⟨ret_bool (by first | rfl | simp), hB⟩
    by_cases he : (prepR t r c f).2.2 = 0
    · obtain ⟨x, n, e⟩ : ∃ x n, prepR t r c f = (x, n, 0) := ⟨_, _, by rw [← he]⟩
      obtain ⟨m, e2, hmn⟩ := prep_slow e (by omega) (by omega) (s := s)
      obtain ⟨hok, rfl, -, -, -, -, -⟩ := prep_zero e
      have HP := hid (fun w => prep_lit (v := .agg #[.int .i64 (prepP c r), .int .i64 f, .bool r.stuck]) hs' e rfl w)
      have HQ := hid (fun w => prep_lit (t := slow t s) (v := .agg #[.int .i64 (prepP c r), .int .i64 f, .bool r.stuck]) hs' e2 rfl w)
      generalize prepP c r = p at *
      clear h60 hs hs' e he hok e2
      rw [telV_eq, rigV_eq] at *
      dsimp only [slow] at HQ
      go_enter Tryd.func8, Tryd.ntmps8  ;go_wp2_with fail  ;obtain ⟨w0, hw0, ht, hr, hB⟩ := telrig_world t r w  ;rw [hw0]  ;clear hw0  ;refine (head_any _).mono ?_  ;rintro e w' ⟨rfl, hB1⟩  ;replace ht := ht.below hB1 ht.lt  ;replace hr := hr.below hB1 hr.lt  ;replace hB := hB.trans (hB1.mono hB.size)  ;clear hB1  ;obtain ⟨tc0, tc1, tc2, tc3, tc4, tc5, tc6, tc7, tc8⟩ := tel_cells ht  ;obtain ⟨rc0, rc1, rc2⟩ := rig_cells hr  ;go_wp2_with fail  ;clear tc0 tc1 tc2 tc3 tc4 tc5 tc6 tc7 tc8 rc0 rc1 rc2  ;refine (HF.out _).mono ?_  ;rintro e w' ⟨rfl, hB1⟩  ;replace ht := ht.below hB1 ht.lt  ;replace hr := hr.below hB1 hr.lt  ;replace hB := hB.trans (hB1.mono hB.size)  ;clear hB1  ;obtain ⟨tc0, tc1, tc2, tc3, tc4, tc5, tc6, tc7, tc8⟩ := tel_cells ht  ;obtain ⟨rc0, rc1, rc2⟩ := rig_cells hr  ;go_wp2_with fail  ;clear tc0 tc1 tc2 tc3 tc4 tc5 tc6 tc7 tc8 rc0 rc1 rc2
      refine (HP.out _).mono ?_
      rintro e w' ⟨rfl, hB1⟩
      have hlt := (ht.below hB1 ht.lt).lt
      replace ht := (ht.below hB1 ht.lt).alloc (Obj.cells #[Value.int .i64 p, Value.int .i64 f, Value.bool r.stuck] 27)
      replace hr := (hr.below hB1 hr.lt).alloc (Obj.cells #[Value.int .i64 p, Value.int .i64 f, Value.bool r.stuck] 27)
      have hx := Blk.new w' #[Value.int .i64 p, Value.int .i64 f, Value.bool r.stuck] 27
      replace hB := (hB.trans (hB1.mono hB.size)).alloc (by have := hB.size; have := hB1.size; omega) (Obj.cells #[Value.int .i64 p, Value.int .i64 f, Value.bool r.stuck] 27)
      clear hB1
      have htf := ht.free 2
      have ht' : Blk ((w'.alloc (Obj.cells #[Value.int .i64 p, Value.int .i64 f, Value.bool r.stuck] 27)).setCell ⟨w.heap.size, 2, none⟩ (.int .i64 s)) w.heap.size 25 (telCells (slow t s)) := ht.set 2 (.int .i64 s)
      have hr' := hr.other ⟨w.heap.size, 2, none⟩ (by show w.heap.size + 1 ≠ w.heap.size; omega) (.int .i64 s)
      have hwl := hx.lt
      have hx' := hx.other ⟨w.heap.size, 2, none⟩ (by show w'.heap.size ≠ w.heap.size; omega) (.int .i64 s)
      clear hlt
      have hB' := hB.setCell (p := ⟨w.heap.size, 2, none⟩) (Nat.le_refl _) (.int .i64 s)
      obtain ⟨tc0, tc1, tc2, tc3, tc4, tc5, tc6, tc7, tc8⟩ := tel_cells ht'
      obtain ⟨rc0, rc1, rc2⟩ := rig_cells hr'
      have tcc := ht.cell 2
      simp only [telCells, List.getElem?_cons_succ, List.getElem?_cons_zero] at tcc
      go_wp2_with fail
      dsimp only [slow] at *
      clear htf ht hr hB tcc tc0 tc1 tc2 tc3 tc4 tc5 tc6 tc7 tc8 rc0 rc1 rc2 hwl hx
      generalize ((w'.alloc (Obj.cells #[Value.int .i64 p, Value.int .i64 f, Value.bool r.stuck] 27)).setCell ⟨w.heap.size, 2, none⟩ (.int .i64 s)) = w2 at *
      refine (HQ.out _).mono ?_
      generalize hxa : w'.heap.size = xa at *
      clear hxa
      rintro e w3 ⟨rfl, hB1⟩
      have hx2 := (hx'.below hB1 hx'.lt).alloc (Obj.cells #[Value.int .i64 p, Value.int .i64 f, Value.bool r.stuck] 27)
      have hy := Blk.new w3 #[Value.int .i64 p, Value.int .i64 f, Value.bool r.stuck] 27
      have hB := (hB'.trans (hB1.mono hB'.size)).alloc (by have := hB'.size; have := hB1.size; omega) (Obj.cells #[Value.int .i64 p, Value.int .i64 f, Value.bool r.stuck] 27)
      have xc0 := hx2.cell 0
      have xc1 := hx2.cell 1
      have xc2 := hx2.cell 2
      have yc0 := hy.cell 0
      have yc1 := hy.cell 1
      have yc2 := hy.cell 2
      simp only [List.getElem?_cons_succ, List.getElem?_cons_zero] at xc0 xc1 xc2 yc0 yc1 yc2
      clear hB1 hB' hx' ht' hr' hx2 hy
      go_wp2_with fail
      go_ret
      refine ⟨ret_bool ?_, hB⟩
      first | rfl | (simp [*]; done) | trace_state
    · obtain ⟨e1, _⟩ := prep_err he
      have HP := hid (fun w => prep_lit (v := .agg #[.int .i64 0, .int .i64 0, .bool false]) hs' e1 rfl w)
      have hb : ((prepR t r c f).2.2 != 0) = true := by rw [bne_iff_ne]; exact he
      generalize (prepR t r c f).2.2 = er at *
      clear h60 hs hs' e1 he
      rw [telV_eq, rigV_eq] at *
      go_enter Tryd.func8, Tryd.ntmps8  ;go_wp2_with fail  ;obtain ⟨w0, hw0, ht, hr, hB⟩ := telrig_world t r w  ;rw [hw0]  ;clear hw0  ;refine (head_any _).mono ?_  ;rintro e w' ⟨rfl, hB1⟩  ;replace ht := ht.below hB1 ht.lt  ;replace hr := hr.below hB1 hr.lt  ;replace hB := hB.trans (hB1.mono hB.size)  ;clear hB1  ;obtain ⟨tc0, tc1, tc2, tc3, tc4, tc5, tc6, tc7, tc8⟩ := tel_cells ht  ;obtain ⟨rc0, rc1, rc2⟩ := rig_cells hr  ;go_wp2_with fail  ;clear tc0 tc1 tc2 tc3 tc4 tc5 tc6 tc7 tc8 rc0 rc1 rc2  ;refine (HF.out _).mono ?_  ;rintro e w' ⟨rfl, hB1⟩  ;replace ht := ht.below hB1 ht.lt  ;replace hr := hr.below hB1 hr.lt  ;replace hB := hB.trans (hB1.mono hB.size)  ;clear hB1  ;obtain ⟨tc0, tc1, tc2, tc3, tc4, tc5, tc6, tc7, tc8⟩ := tel_cells ht  ;obtain ⟨rc0, rc1, rc2⟩ := rig_cells hr  ;go_wp2_with fail  ;clear tc0 tc1 tc2 tc3 tc4 tc5 tc6 tc7 tc8 rc0 rc1 rc2
      refine (HP.out _).mono ?_
      rintro e w' ⟨rfl, hB1⟩  ;replace ht := (ht.below hB1 ht.lt).alloc (Obj.cells #[Value.int .i64 0, Value.int .i64 0, Value.bool false] 27)  ;replace hr := (hr.below hB1 hr.lt).alloc (Obj.cells #[Value.int .i64 0, Value.int .i64 0, Value.bool false] 27)  ;have hx := Blk.new w' #[Value.int .i64 0, Value.int .i64 0, Value.bool false] 27  ;replace hB := (hB.trans (hB1.mono hB.size)).alloc (by have := hB.size; have := hB1.size; omega) (Obj.cells #[Value.int .i64 0, Value.int .i64 0, Value.bool false] 27)  ;clear hB1  ;obtain ⟨tc0, tc1, tc2, tc3, tc4, tc5, tc6, tc7, tc8⟩ := tel_cells ht  ;obtain ⟨rc0, rc1, rc2⟩ := rig_cells hr  ;have xc0 := hx.cell 0  ;have xc1 := hx.cell 1  ;have xc2 := hx.cell 2  ;simp only [List.getElem?_cons_succ, List.getElem?_cons_zero] at xc0 xc1 xc2  ;go_wp2_with fail  ;clear tc0 tc1 tc2 tc3 tc4 tc5 tc6 tc7 tc8 rc0 rc1 rc2
      go_ret
      exact ⟨ret_bool (by first | rfl | simp), hB⟩
  · have HF := hid (fun w => few_lit (t := t) (b := false) hs (decide_eq_false h60) w)
    clear h60 hs
    rw [telV_eq, rigV_eq] at *
    go_enter Tryd.func8, Tryd.ntmps8  ;go_wp2_with fail  ;obtain ⟨w0, hw0, ht, hr, hB⟩ := telrig_world t r w  ;rw [hw0]  ;clear hw0  ;refine (head_any _).mono ?_  ;rintro e w' ⟨rfl, hB1⟩  ;replace ht := ht.below hB1 ht.lt  ;replace hr := hr.below hB1 hr.lt  ;replace hB := hB.trans (hB1.mono hB.size)  ;clear hB1  ;obtain ⟨tc0, tc1, tc2, tc3, tc4, tc5, tc6, tc7, tc8⟩ := tel_cells ht  ;obtain ⟨rc0, rc1, rc2⟩ := rig_cells hr  ;go_wp2_with fail  ;clear tc0 tc1 tc2 tc3 tc4 tc5 tc6 tc7 tc8 rc0 rc1 rc2  ;refine (HF.out _).mono ?_  ;rintro e w' ⟨rfl, hB1⟩  ;replace ht := ht.below hB1 ht.lt  ;replace hr := hr.below hB1 hr.lt  ;replace hB := hB.trans (hB1.mono hB.size)  ;clear hB1  ;obtain ⟨tc0, tc1, tc2, tc3, tc4, tc5, tc6, tc7, tc8⟩ := tel_cells ht  ;obtain ⟨rc0, rc1, rc2⟩ := rig_cells hr  ;go_wp2_with fail  ;clear tc0 tc1 tc2 tc3 tc4 tc5 tc6 tc7 tc8 rc0 rc1 rc2
    go_ret
    exact ⟨ret_bool (by first | rfl | simp), hB⟩
theorem faster_fin (t : Tel) (r : RigT) (c f s : Int) (w : World) (h : TelWf t) (_h1 : RigWf r) (_h2 : (Lit.int .i64 c).wf = true) (_h3 : (Lit.int .i64 f).wf = true) (_h4 : (Lit.int .i64 s).wf = true) :
    Calls Tryd.prog 8 #[telV t, rigV r, .int .i64 c, .int .i64 f, .int .i64 s] w fun e w' => e = .returned (.bool true) ∧ Below w.heap.size w w' := faster_walk t r c f s w h.id
end Go.Proofs.YthnkahilaampmaaDoor
