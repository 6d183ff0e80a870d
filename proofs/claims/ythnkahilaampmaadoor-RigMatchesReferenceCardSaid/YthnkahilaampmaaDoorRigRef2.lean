/- rig: the reference's Prepare -/
import Derived.Test.YthnkahilaampmaaDoorRigRef
namespace Go.Proofs.YthnkahilaampmaaDoor
open Go.RowKit

theorem prepR_ref (t : Tel) (r : RigT) (c f : Int) (h : (validB t r && flB t f && colB c) = true) : prepR t r c f =
    (if r.stuck = true ∧ f ≠ r.filter then (rig0, 0, 20) else if 60 < max (t.speed * prepD c r) (turnV t r.filter f) then (rig0, 0, 21) else (⟨prepP c r, f, r.stuck⟩, max (t.speed * prepD c r) (turnV t r.filter f), 0)) := by
  obtain ⟨hv, hf, hc, hk⟩ := ok_parts h
  obtain ⟨_, _, htl, _⟩ := validB_at hv
  obtain ⟨f1, _⟩ := teleB_filters htl
  obtain ⟨p1, _, _, _⟩ := prep_pd hk
  unfold prepR
  rw [if_pos h]
  by_cases hs : prepP c r = r.at_ ∧ f = r.filter
  · obtain ⟨h1, h2⟩ := hs
    have hd : prepD c r = 0 := by omega
    have htv : turnV t r.filter f = 0 := by rw [h2]; exact turnV_same t _ f1
    rw [if_pos ⟨h1, h2⟩, hd, htv]
    simp [h2]
  · rw [if_neg hs]


set_option maxHeartbeats 4000000 in
set_option maxRecDepth 100000 in
theorem rprep_bad (t : Tel) (ra rf : Int) (rs : Bool) (c f : Int) (w : World) (hs : t.id.size ≤ 20000) (h : (validB t ⟨ra, rf, rs⟩ && flB t f && colB c) = false) : Calls Tryd.prog 14 #[telV t, .agg #[.int .i64 ra, .int .i64 rf, .bool rs], .int .i64 c, .int .i64 f] w fun e w' =>
    e = .returned (.tuple #[.agg #[.int .i64 0, .int .i64 0, .bool false], .int .i64 0, .int .i64 1]) ∧ Below w.heap.size w w' := by
  have hV := fun w => rvalid_any t ⟨ra, rf, rs⟩ w hs
  have hW := fun w => rfilter_any t f w
  unfold rigV at hV
  dsimp only at hV
  have HV := hid hV
  have HW := hid hW
  clear hV hW
  cases hv : validB t ⟨ra, rf, rs⟩
  · rw [hv] at HV
    clear h hv hs
    rw [telV_eq] at *
    go_enter Tryd.func14, Tryd.ntmps14  ;go_wp2_with fail  ;have hpw := prep_worlds t ⟨ra, rf, rs⟩ w  ;(try dsimp only at hpw)  ;obtain ⟨w0, hw0, ht, hr, hz, hB⟩ := hpw  ;rw [hw0]  ;clear hw0  ;generalize hg1 : w.heap.size + 1 = b1 at *  ;generalize hg2 : b1 + 1 = b2 at *  ;have HB := hid (show b1 = w.heap.size + 1 ∧ b2 = b1 + 1 from ⟨hg1.symm, hg2.symm⟩)  ;have hwb2 : w.heap.size ≤ b2 := (by omega)  ;clear hg1 hg2  ;refine (HV.out _).mono ?_  ;rintro e w' ⟨rfl, hB1⟩  ;replace ht := ht.below hB1 ht.lt  ;replace hr := hr.below hB1 hr.lt  ;replace hz := hz.below hB1 hz.lt  ;replace hB := hB.trans (hB1.mono hB.size)  ;clear hB1  ;obtain ⟨tc0, tc1, tc2, tc3, tc4, tc5, tc6, tc7, tc8⟩ := tel_cells ht  ;have rc0 := hr.cell 0  ;have rc1 := hr.cell 1  ;have rc2 := hr.cell 2  ;simp only [List.getElem?_cons_succ, List.getElem?_cons_zero] at rc0 rc1 rc2
    go_wp2_with (refine wpList_store_row rfl 27 _ _ rfl b2 _ rfl rfl 27 _ hz (by kernel_rfl) rfl (by simp [Value.oneCell']) ?_)  ;(try simp only [Exit.inBlock, Exit.then]); refine bodyPost_ret (results_row3 rfl _ _ b2 27 _ _ rfl (setRow_heap _ _ _ _ _ _ hz) Tryd.underlying27 rfl (by kernel_rfl)) rfl ?_  ;exact ⟨rfl, below_setRow hB hwb2 _⟩
  · rw [hv] at HV
    by_cases hc0 : c < 0
    · clear h hv hs
      rw [telV_eq] at *
      go_enter Tryd.func14, Tryd.ntmps14  ;go_wp2_with fail  ;have hpw := prep_worlds t ⟨ra, rf, rs⟩ w  ;(try dsimp only at hpw)  ;obtain ⟨w0, hw0, ht, hr, hz, hB⟩ := hpw  ;rw [hw0]  ;clear hw0  ;generalize hg1 : w.heap.size + 1 = b1 at *  ;generalize hg2 : b1 + 1 = b2 at *  ;have HB := hid (show b1 = w.heap.size + 1 ∧ b2 = b1 + 1 from ⟨hg1.symm, hg2.symm⟩)  ;have hwb2 : w.heap.size ≤ b2 := (by omega)  ;clear hg1 hg2  ;refine (HV.out _).mono ?_  ;rintro e w' ⟨rfl, hB1⟩  ;replace ht := ht.below hB1 ht.lt  ;replace hr := hr.below hB1 hr.lt  ;replace hz := hz.below hB1 hz.lt  ;replace hB := hB.trans (hB1.mono hB.size)  ;clear hB1  ;obtain ⟨tc0, tc1, tc2, tc3, tc4, tc5, tc6, tc7, tc8⟩ := tel_cells ht  ;have rc0 := hr.cell 0  ;have rc1 := hr.cell 1  ;have rc2 := hr.cell 2  ;simp only [List.getElem?_cons_succ, List.getElem?_cons_zero] at rc0 rc1 rc2
      go_wp2_with (refine wpList_store_row rfl 27 _ _ rfl b2 _ rfl rfl 27 _ hz (by kernel_rfl) rfl (by simp [Value.oneCell']) ?_)  ;(try simp only [Exit.inBlock, Exit.then]); refine bodyPost_ret (results_row3 rfl _ _ b2 27 _ _ rfl (setRow_heap _ _ _ _ _ _ hz) Tryd.underlying27 rfl (by kernel_rfl)) rfl ?_  ;exact ⟨rfl, below_setRow hB hwb2 _⟩
    by_cases hc1 : 31 < c
    · clear h hv hs
      rw [telV_eq] at *
      go_enter Tryd.func14, Tryd.ntmps14  ;go_wp2_with fail  ;have hpw := prep_worlds t ⟨ra, rf, rs⟩ w  ;(try dsimp only at hpw)  ;obtain ⟨w0, hw0, ht, hr, hz, hB⟩ := hpw  ;rw [hw0]  ;clear hw0  ;generalize hg1 : w.heap.size + 1 = b1 at *  ;generalize hg2 : b1 + 1 = b2 at *  ;have HB := hid (show b1 = w.heap.size + 1 ∧ b2 = b1 + 1 from ⟨hg1.symm, hg2.symm⟩)  ;have hwb2 : w.heap.size ≤ b2 := (by omega)  ;clear hg1 hg2  ;refine (HV.out _).mono ?_  ;rintro e w' ⟨rfl, hB1⟩  ;replace ht := ht.below hB1 ht.lt  ;replace hr := hr.below hB1 hr.lt  ;replace hz := hz.below hB1 hz.lt  ;replace hB := hB.trans (hB1.mono hB.size)  ;clear hB1  ;obtain ⟨tc0, tc1, tc2, tc3, tc4, tc5, tc6, tc7, tc8⟩ := tel_cells ht  ;have rc0 := hr.cell 0  ;have rc1 := hr.cell 1  ;have rc2 := hr.cell 2  ;simp only [List.getElem?_cons_succ, List.getElem?_cons_zero] at rc0 rc1 rc2
      go_wp2_with (refine wpList_store_row rfl 27 _ _ rfl b2 _ rfl rfl 27 _ hz (by kernel_rfl) rfl (by simp [Value.oneCell']) ?_)  ;(try simp only [Exit.inBlock, Exit.then]); refine bodyPost_ret (results_row3 rfl _ _ b2 27 _ _ rfl (setRow_heap _ _ _ _ _ _ hz) Tryd.underlying27 rfl (by kernel_rfl)) rfl ?_  ;exact ⟨rfl, below_setRow hB hwb2 _⟩
    have hf : flB t f = false := by
      have hc : colB c = true := (colB_iff c).2 (by omega)
      simpa [hv, hc] using h
    rw [hf] at HW
    clear h hv hs hf
    rw [telV_eq] at *
    go_enter Tryd.func14, Tryd.ntmps14  ;go_wp2_with fail  ;have hpw := prep_worlds t ⟨ra, rf, rs⟩ w  ;(try dsimp only at hpw)  ;obtain ⟨w0, hw0, ht, hr, hz, hB⟩ := hpw  ;rw [hw0]  ;clear hw0  ;generalize hg1 : w.heap.size + 1 = b1 at *  ;generalize hg2 : b1 + 1 = b2 at *  ;have HB := hid (show b1 = w.heap.size + 1 ∧ b2 = b1 + 1 from ⟨hg1.symm, hg2.symm⟩)  ;have hwb2 : w.heap.size ≤ b2 := (by omega)  ;clear hg1 hg2  ;refine (HV.out _).mono ?_  ;rintro e w' ⟨rfl, hB1⟩  ;replace ht := ht.below hB1 ht.lt  ;replace hr := hr.below hB1 hr.lt  ;replace hz := hz.below hB1 hz.lt  ;replace hB := hB.trans (hB1.mono hB.size)  ;clear hB1  ;obtain ⟨tc0, tc1, tc2, tc3, tc4, tc5, tc6, tc7, tc8⟩ := tel_cells ht  ;have rc0 := hr.cell 0  ;have rc1 := hr.cell 1  ;have rc2 := hr.cell 2  ;simp only [List.getElem?_cons_succ, List.getElem?_cons_zero] at rc0 rc1 rc2
    go_wp2_with fail
    clear tc0 tc1 tc2 tc3 tc4 tc5 tc6 tc7 tc8 rc0 rc1 rc2
    refine (HW.out _).mono ?_
    rintro e w' ⟨rfl, hB1⟩  ;replace ht := ht.below hB1 ht.lt  ;replace hr := hr.below hB1 hr.lt  ;replace hz := hz.below hB1 hz.lt  ;replace hB := hB.trans (hB1.mono hB.size)  ;clear hB1  ;obtain ⟨tc0, tc1, tc2, tc3, tc4, tc5, tc6, tc7, tc8⟩ := tel_cells ht  ;have rc0 := hr.cell 0  ;have rc1 := hr.cell 1  ;have rc2 := hr.cell 2  ;simp only [List.getElem?_cons_succ, List.getElem?_cons_zero] at rc0 rc1 rc2
    go_wp2_with (refine wpList_store_row rfl 27 _ _ rfl b2 _ rfl rfl 27 _ hz (by kernel_rfl) rfl (by simp [Value.oneCell']) ?_)  ;(try simp only [Exit.inBlock, Exit.then]); refine bodyPost_ret (results_row3 rfl _ _ b2 27 _ _ rfl (setRow_heap _ _ _ _ _ _ hz) Tryd.underlying27 rfl (by kernel_rfl)) rfl ?_  ;exact ⟨rfl, below_setRow hB hwb2 _⟩

set_option maxHeartbeats 2000000 in
set_option maxRecDepth 100000 in
theorem rprep_good (t : Tel) (ra rf : Int) (rs : Bool) (c f : Int) (w : World) (hs : t.id.size ≤ 20000) (h : (validB t ⟨ra, rf, rs⟩ && flB t f && colB c) = true) : Calls Tryd.prog 14 #[telV t, .agg #[.int .i64 ra, .int .i64 rf, .bool rs], .int .i64 c, .int .i64 f] w fun e w' =>
    e = .returned (.tuple #[rigV (prepR t ⟨ra, rf, rs⟩ c f).1, .int .i64 (prepR t ⟨ra, rf, rs⟩ c f).2.1, .int .i64 (prepR t ⟨ra, rf, rs⟩ c f).2.2]) ∧ Below w.heap.size w w' := by
  have hV := fun w => rvalid_any t ⟨ra, rf, rs⟩ w hs
  have hW := fun w => rfilter_any t f w
  obtain ⟨hv, hf, hc, hk⟩ := ok_parts h
  obtain ⟨a1, a2, htl, hrf⟩ := validB_at hv
  obtain ⟨s1, s2⟩ := teleB_speed htl
  obtain ⟨c0, c1⟩ := (colB_iff c).1 hc
  obtain ⟨p1, p2, p3, _⟩ := prep_pd hk
  obtain ⟨f1, f2⟩ := teleB_filters htl
  obtain ⟨g1, g2⟩ := flB_bd' hf
  obtain ⟨g3, g4⟩ := flB_bd' hrf
  have htb : turnB t rf f = true := by simp only [turnB, htl, hf]; simpa using hrf
  have hM := fun w => rmove_yes ra c w hk
  have hT := fun w => rturn_any t rf f w hs
  simp only [tV, tE, htb, if_true] at hT
  rw [hv] at hV
  rw [hf] at hW
  have e1 : (planL ra [c]).headD 0 = prepP c ⟨ra, rf, rs⟩ := rfl
  have e2 : lenF [c] ra = prepD c ⟨ra, rf, rs⟩ := rfl
  rw [e1, e2] at hM
  rw [prepR_ref t _ c f h]
  have t1 : 0 ≤ turnV t rf f := by unfold turnV; dsimp only at g3 g4; omega
  have t2 : turnV t rf f ≤ 100 := by unfold turnV; dsimp only at g3 g4; omega
  have hd0 : 0 ≤ prepD c ⟨ra, rf, rs⟩ := by omega
  have hd1 : prepD c ⟨ra, rf, rs⟩ ≤ 96 := by dsimp only at *; omega
  have hm1 : 0 ≤ t.speed * prepD c ⟨ra, rf, rs⟩ := Int.mul_nonneg (by omega) hd0
  have hm2 : t.speed * prepD c ⟨ra, rf, rs⟩ ≤ 20 * 96 := Int.mul_le_mul (by omega) (by omega) hd0 (by omega)
  dsimp only at *
  generalize prepP c ⟨ra, rf, rs⟩ = p at *
  generalize prepD c ⟨ra, rf, rs⟩ = d at *
  generalize turnV t rf f = tv at *
  unfold rigV at hV
  dsimp only at hV
  have HV := hid hV
  have HW := hid hW
  have HM := hid hM
  have HT := hid hT
  clear hV hW hM hT h hv hf hc hk htl hrf htb e1 e2 p1 a1 a2 f1 f2 g1 g2 g3 g4 hs
  obtain ⟨P, HP⟩ : ∃ P : RigT × Int × Int, Hid ((if rs = true ∧ f ≠ rf then (rig0, 0, 20) else if 60 < max (t.speed * d) tv then (rig0, 0, 21) else (⟨p, f, rs⟩, max (t.speed * d) tv, 0)) = P) := ⟨_, hid rfl⟩
  rw [HP.out]
  rw [telV_eq] at *
  by_cases hfe : f = rf
  · obtain rfl : rf = f := hfe.symm
    clear hfe
    by_cases h60 : 60 < max (t.speed * d) tv
    · go_enter Tryd.func14, Tryd.ntmps14  ;go_wp2_with fail  ;have hpw := prep_worlds t ⟨ra, rf, rs⟩ w  ;(try dsimp only at hpw)  ;obtain ⟨w0, hw0, ht, hr, hz, hB⟩ := hpw  ;rw [hw0]  ;clear hw0  ;generalize hg1 : w.heap.size + 1 = b1 at *  ;generalize hg2 : b1 + 1 = b2 at *  ;have HB := hid (show b1 = w.heap.size + 1 ∧ b2 = b1 + 1 from ⟨hg1.symm, hg2.symm⟩)  ;have hwb2 : w.heap.size ≤ b2 := (by omega)  ;clear hg1 hg2  ;refine (HV.out _).mono ?_  ;rintro e w' ⟨rfl, hB1⟩  ;replace ht := ht.below hB1 ht.lt  ;replace hr := hr.below hB1 hr.lt  ;replace hz := hz.below hB1 hz.lt  ;replace hB := hB.trans (hB1.mono hB.size)  ;clear hB1  ;obtain ⟨tc0, tc1, tc2, tc3, tc4, tc5, tc6, tc7, tc8⟩ := tel_cells ht  ;have rc0 := hr.cell 0  ;have rc1 := hr.cell 1  ;have rc2 := hr.cell 2  ;simp only [List.getElem?_cons_succ, List.getElem?_cons_zero] at rc0 rc1 rc2  ;go_wp2_with fail  ;clear tc0 tc1 tc2 tc3 tc4 tc5 tc6 tc7 tc8 rc0 rc1 rc2  ;refine (HW.out _).mono ?_  ;rintro e w' ⟨rfl, hB1⟩  ;replace ht := ht.below hB1 ht.lt  ;replace hr := hr.below hB1 hr.lt  ;replace hz := hz.below hB1 hz.lt  ;replace hB := hB.trans (hB1.mono hB.size)  ;clear hB1  ;obtain ⟨tc0, tc1, tc2, tc3, tc4, tc5, tc6, tc7, tc8⟩ := tel_cells ht  ;have rc0 := hr.cell 0  ;have rc1 := hr.cell 1  ;have rc2 := hr.cell 2  ;simp only [List.getElem?_cons_succ, List.getElem?_cons_zero] at rc0 rc1 rc2
      cases rs
      · go_wp2_with fail  ;clear tc0 tc1 tc2 tc3 tc4 tc5 tc6 tc7 tc8 rc0 rc1 rc2  ;refine (HM.out _).mono ?_  ;rintro e w' ⟨rfl, hB1⟩  ;replace ht := ht.below hB1 ht.lt  ;replace hr := hr.below hB1 hr.lt  ;replace hz := hz.below hB1 hz.lt  ;replace hB := hB.trans (hB1.mono hB.size)  ;clear hB1  ;obtain ⟨tc0, tc1, tc2, tc3, tc4, tc5, tc6, tc7, tc8⟩ := tel_cells ht  ;have rc0 := hr.cell 0  ;have rc1 := hr.cell 1  ;have rc2 := hr.cell 2  ;simp only [List.getElem?_cons_succ, List.getElem?_cons_zero] at rc0 rc1 rc2  ;go_wp2_with fail  ;clear tc0 tc1 tc2 tc3 tc4 tc5 tc6 tc7 tc8 rc0 rc1 rc2  ;refine (HT.out _).mono ?_  ;rintro e w' ⟨rfl, hB1⟩  ;replace ht := ht.below hB1 ht.lt  ;replace hr := hr.below hB1 hr.lt  ;replace hz := hz.below hB1 hz.lt  ;replace hB := hB.trans (hB1.mono hB.size)  ;clear hB1  ;obtain ⟨tc0, tc1, tc2, tc3, tc4, tc5, tc6, tc7, tc8⟩ := tel_cells ht  ;have rc0 := hr.cell 0  ;have rc1 := hr.cell 1  ;have rc2 := hr.cell 2  ;simp only [List.getElem?_cons_succ, List.getElem?_cons_zero] at rc0 rc1 rc2
        go_wp2_with (refine wpList_store_row rfl 27 _ _ rfl b2 _ rfl rfl 27 _ hz (by kernel_rfl) rfl (by simp [Value.oneCell']) ?_)  ;(try simp only [Exit.inBlock, Exit.then]); refine bodyPost_ret (results_row3 rfl _ _ b2 27 _ _ rfl (setRow_heap _ _ _ _ _ _ hz) Tryd.underlying27 rfl (by kernel_rfl)) rfl ?_  ;have hp := HP.out
        rw [if_neg (by simp), if_pos h60] at hp  ;subst hp  ;exact ⟨rfl, below_setRow hB hwb2 _⟩
      · go_wp2_with fail  ;clear tc0 tc1 tc2 tc3 tc4 tc5 tc6 tc7 tc8 rc0 rc1 rc2  ;refine (HM.out _).mono ?_  ;rintro e w' ⟨rfl, hB1⟩  ;replace ht := ht.below hB1 ht.lt  ;replace hr := hr.below hB1 hr.lt  ;replace hz := hz.below hB1 hz.lt  ;replace hB := hB.trans (hB1.mono hB.size)  ;clear hB1  ;obtain ⟨tc0, tc1, tc2, tc3, tc4, tc5, tc6, tc7, tc8⟩ := tel_cells ht  ;have rc0 := hr.cell 0  ;have rc1 := hr.cell 1  ;have rc2 := hr.cell 2  ;simp only [List.getElem?_cons_succ, List.getElem?_cons_zero] at rc0 rc1 rc2  ;go_wp2_with fail  ;clear tc0 tc1 tc2 tc3 tc4 tc5 tc6 tc7 tc8 rc0 rc1 rc2  ;refine (HT.out _).mono ?_  ;rintro e w' ⟨rfl, hB1⟩  ;replace ht := ht.below hB1 ht.lt  ;replace hr := hr.below hB1 hr.lt  ;replace hz := hz.below hB1 hz.lt  ;replace hB := hB.trans (hB1.mono hB.size)  ;clear hB1  ;obtain ⟨tc0, tc1, tc2, tc3, tc4, tc5, tc6, tc7, tc8⟩ := tel_cells ht  ;have rc0 := hr.cell 0  ;have rc1 := hr.cell 1  ;have rc2 := hr.cell 2  ;simp only [List.getElem?_cons_succ, List.getElem?_cons_zero] at rc0 rc1 rc2
        go_wp2_with (refine wpList_store_row rfl 27 _ _ rfl b2 _ rfl rfl 27 _ hz (by kernel_rfl) rfl (by simp [Value.oneCell']) ?_)  ;(try simp only [Exit.inBlock, Exit.then]); refine bodyPost_ret (results_row3 rfl _ _ b2 27 _ _ rfl (setRow_heap _ _ _ _ _ _ hz) Tryd.underlying27 rfl (by kernel_rfl)) rfl ?_  ;have hp := HP.out
        rw [if_neg (by simp), if_pos h60] at hp  ;subst hp  ;exact ⟨rfl, below_setRow hB hwb2 _⟩
    · go_enter Tryd.func14, Tryd.ntmps14  ;go_wp2_with fail  ;have hpw := prep_worlds t ⟨ra, rf, rs⟩ w  ;(try dsimp only at hpw)  ;obtain ⟨w0, hw0, ht, hr, hz, hB⟩ := hpw  ;rw [hw0]  ;clear hw0  ;generalize hg1 : w.heap.size + 1 = b1 at *  ;generalize hg2 : b1 + 1 = b2 at *  ;have HB := hid (show b1 = w.heap.size + 1 ∧ b2 = b1 + 1 from ⟨hg1.symm, hg2.symm⟩)  ;have hwb2 : w.heap.size ≤ b2 := (by omega)  ;clear hg1 hg2  ;refine (HV.out _).mono ?_  ;rintro e w' ⟨rfl, hB1⟩  ;replace ht := ht.below hB1 ht.lt  ;replace hr := hr.below hB1 hr.lt  ;replace hz := hz.below hB1 hz.lt  ;replace hB := hB.trans (hB1.mono hB.size)  ;clear hB1  ;obtain ⟨tc0, tc1, tc2, tc3, tc4, tc5, tc6, tc7, tc8⟩ := tel_cells ht  ;have rc0 := hr.cell 0  ;have rc1 := hr.cell 1  ;have rc2 := hr.cell 2  ;simp only [List.getElem?_cons_succ, List.getElem?_cons_zero] at rc0 rc1 rc2  ;go_wp2_with fail  ;clear tc0 tc1 tc2 tc3 tc4 tc5 tc6 tc7 tc8 rc0 rc1 rc2  ;refine (HW.out _).mono ?_  ;rintro e w' ⟨rfl, hB1⟩  ;replace ht := ht.below hB1 ht.lt  ;replace hr := hr.below hB1 hr.lt  ;replace hz := hz.below hB1 hz.lt  ;replace hB := hB.trans (hB1.mono hB.size)  ;clear hB1  ;obtain ⟨tc0, tc1, tc2, tc3, tc4, tc5, tc6, tc7, tc8⟩ := tel_cells ht  ;have rc0 := hr.cell 0  ;have rc1 := hr.cell 1  ;have rc2 := hr.cell 2  ;simp only [List.getElem?_cons_succ, List.getElem?_cons_zero] at rc0 rc1 rc2
      cases rs
      · go_wp2_with fail  ;clear tc0 tc1 tc2 tc3 tc4 tc5 tc6 tc7 tc8 rc0 rc1 rc2  ;refine (HM.out _).mono ?_  ;rintro e w' ⟨rfl, hB1⟩  ;replace ht := ht.below hB1 ht.lt  ;replace hr := hr.below hB1 hr.lt  ;replace hz := hz.below hB1 hz.lt  ;replace hB := hB.trans (hB1.mono hB.size)  ;clear hB1  ;obtain ⟨tc0, tc1, tc2, tc3, tc4, tc5, tc6, tc7, tc8⟩ := tel_cells ht  ;have rc0 := hr.cell 0  ;have rc1 := hr.cell 1  ;have rc2 := hr.cell 2  ;simp only [List.getElem?_cons_succ, List.getElem?_cons_zero] at rc0 rc1 rc2  ;go_wp2_with fail  ;clear tc0 tc1 tc2 tc3 tc4 tc5 tc6 tc7 tc8 rc0 rc1 rc2  ;refine (HT.out _).mono ?_  ;rintro e w' ⟨rfl, hB1⟩  ;replace ht := ht.below hB1 ht.lt  ;replace hr := hr.below hB1 hr.lt  ;replace hz := hz.below hB1 hz.lt  ;replace hB := hB.trans (hB1.mono hB.size)  ;clear hB1  ;obtain ⟨tc0, tc1, tc2, tc3, tc4, tc5, tc6, tc7, tc8⟩ := tel_cells ht  ;have rc0 := hr.cell 0  ;have rc1 := hr.cell 1  ;have rc2 := hr.cell 2  ;simp only [List.getElem?_cons_succ, List.getElem?_cons_zero] at rc0 rc1 rc2
        go_wp2_with (refine wpList_store_row rfl 27 _ _ rfl b2 _ rfl rfl 27 _ hz (by kernel_rfl) rfl (by simp [Value.oneCell']) ?_)  ;(try simp only [Exit.inBlock, Exit.then]); refine bodyPost_ret (results_row3 rfl _ _ b2 27 _ _ rfl (setRow_heap _ _ _ _ _ _ hz) Tryd.underlying27 rfl (by kernel_rfl)) rfl ?_  ;have hp := HP.out
        rw [if_neg (by simp), if_neg (by first | exact h60 | exact Int.not_lt.2 h60)] at hp  ;subst hp  ;exact ⟨rfl, below_setRow hB hwb2 _⟩
      · go_wp2_with fail  ;clear tc0 tc1 tc2 tc3 tc4 tc5 tc6 tc7 tc8 rc0 rc1 rc2  ;refine (HM.out _).mono ?_  ;rintro e w' ⟨rfl, hB1⟩  ;replace ht := ht.below hB1 ht.lt  ;replace hr := hr.below hB1 hr.lt  ;replace hz := hz.below hB1 hz.lt  ;replace hB := hB.trans (hB1.mono hB.size)  ;clear hB1  ;obtain ⟨tc0, tc1, tc2, tc3, tc4, tc5, tc6, tc7, tc8⟩ := tel_cells ht  ;have rc0 := hr.cell 0  ;have rc1 := hr.cell 1  ;have rc2 := hr.cell 2  ;simp only [List.getElem?_cons_succ, List.getElem?_cons_zero] at rc0 rc1 rc2  ;go_wp2_with fail  ;clear tc0 tc1 tc2 tc3 tc4 tc5 tc6 tc7 tc8 rc0 rc1 rc2  ;refine (HT.out _).mono ?_  ;rintro e w' ⟨rfl, hB1⟩  ;replace ht := ht.below hB1 ht.lt  ;replace hr := hr.below hB1 hr.lt  ;replace hz := hz.below hB1 hz.lt  ;replace hB := hB.trans (hB1.mono hB.size)  ;clear hB1  ;obtain ⟨tc0, tc1, tc2, tc3, tc4, tc5, tc6, tc7, tc8⟩ := tel_cells ht  ;have rc0 := hr.cell 0  ;have rc1 := hr.cell 1  ;have rc2 := hr.cell 2  ;simp only [List.getElem?_cons_succ, List.getElem?_cons_zero] at rc0 rc1 rc2
        go_wp2_with (refine wpList_store_row rfl 27 _ _ rfl b2 _ rfl rfl 27 _ hz (by kernel_rfl) rfl (by simp [Value.oneCell']) ?_)  ;(try simp only [Exit.inBlock, Exit.then]); refine bodyPost_ret (results_row3 rfl _ _ b2 27 _ _ rfl (setRow_heap _ _ _ _ _ _ hz) Tryd.underlying27 rfl (by kernel_rfl)) rfl ?_  ;have hp := HP.out
        rw [if_neg (by simp), if_neg (by first | exact h60 | exact Int.not_lt.2 h60)] at hp  ;subst hp  ;exact ⟨rfl, below_setRow hB hwb2 _⟩
  · have hf1 : (f != rf) = true := by rw [bne_iff_ne]; exact hfe
    have HFE := hid hfe
    clear hfe
    by_cases h60 : 60 < max (t.speed * d) tv
    · go_enter Tryd.func14, Tryd.ntmps14  ;go_wp2_with fail  ;have hpw := prep_worlds t ⟨ra, rf, rs⟩ w  ;(try dsimp only at hpw)  ;obtain ⟨w0, hw0, ht, hr, hz, hB⟩ := hpw  ;rw [hw0]  ;clear hw0  ;generalize hg1 : w.heap.size + 1 = b1 at *  ;generalize hg2 : b1 + 1 = b2 at *  ;have HB := hid (show b1 = w.heap.size + 1 ∧ b2 = b1 + 1 from ⟨hg1.symm, hg2.symm⟩)  ;have hwb2 : w.heap.size ≤ b2 := (by omega)  ;clear hg1 hg2  ;refine (HV.out _).mono ?_  ;rintro e w' ⟨rfl, hB1⟩  ;replace ht := ht.below hB1 ht.lt  ;replace hr := hr.below hB1 hr.lt  ;replace hz := hz.below hB1 hz.lt  ;replace hB := hB.trans (hB1.mono hB.size)  ;clear hB1  ;obtain ⟨tc0, tc1, tc2, tc3, tc4, tc5, tc6, tc7, tc8⟩ := tel_cells ht  ;have rc0 := hr.cell 0  ;have rc1 := hr.cell 1  ;have rc2 := hr.cell 2  ;simp only [List.getElem?_cons_succ, List.getElem?_cons_zero] at rc0 rc1 rc2  ;go_wp2_with fail  ;clear tc0 tc1 tc2 tc3 tc4 tc5 tc6 tc7 tc8 rc0 rc1 rc2  ;refine (HW.out _).mono ?_  ;rintro e w' ⟨rfl, hB1⟩  ;replace ht := ht.below hB1 ht.lt  ;replace hr := hr.below hB1 hr.lt  ;replace hz := hz.below hB1 hz.lt  ;replace hB := hB.trans (hB1.mono hB.size)  ;clear hB1  ;obtain ⟨tc0, tc1, tc2, tc3, tc4, tc5, tc6, tc7, tc8⟩ := tel_cells ht  ;have rc0 := hr.cell 0  ;have rc1 := hr.cell 1  ;have rc2 := hr.cell 2  ;simp only [List.getElem?_cons_succ, List.getElem?_cons_zero] at rc0 rc1 rc2
      cases rs
      · go_wp2_with fail  ;clear tc0 tc1 tc2 tc3 tc4 tc5 tc6 tc7 tc8 rc0 rc1 rc2  ;refine (HM.out _).mono ?_  ;rintro e w' ⟨rfl, hB1⟩  ;replace ht := ht.below hB1 ht.lt  ;replace hr := hr.below hB1 hr.lt  ;replace hz := hz.below hB1 hz.lt  ;replace hB := hB.trans (hB1.mono hB.size)  ;clear hB1  ;obtain ⟨tc0, tc1, tc2, tc3, tc4, tc5, tc6, tc7, tc8⟩ := tel_cells ht  ;have rc0 := hr.cell 0  ;have rc1 := hr.cell 1  ;have rc2 := hr.cell 2  ;simp only [List.getElem?_cons_succ, List.getElem?_cons_zero] at rc0 rc1 rc2  ;go_wp2_with fail  ;clear tc0 tc1 tc2 tc3 tc4 tc5 tc6 tc7 tc8 rc0 rc1 rc2  ;refine (HT.out _).mono ?_  ;rintro e w' ⟨rfl, hB1⟩  ;replace ht := ht.below hB1 ht.lt  ;replace hr := hr.below hB1 hr.lt  ;replace hz := hz.below hB1 hz.lt  ;replace hB := hB.trans (hB1.mono hB.size)  ;clear hB1  ;obtain ⟨tc0, tc1, tc2, tc3, tc4, tc5, tc6, tc7, tc8⟩ := tel_cells ht  ;have rc0 := hr.cell 0  ;have rc1 := hr.cell 1  ;have rc2 := hr.cell 2  ;simp only [List.getElem?_cons_succ, List.getElem?_cons_zero] at rc0 rc1 rc2
        go_wp2_with (refine wpList_store_row rfl 27 _ _ rfl b2 _ rfl rfl 27 _ hz (by kernel_rfl) rfl (by simp [Value.oneCell']) ?_)  ;(try simp only [Exit.inBlock, Exit.then]); refine bodyPost_ret (results_row3 rfl _ _ b2 27 _ _ rfl (setRow_heap _ _ _ _ _ _ hz) Tryd.underlying27 rfl (by kernel_rfl)) rfl ?_  ;have hp := HP.out
        rw [if_neg (by simp), if_pos h60] at hp  ;subst hp  ;exact ⟨rfl, below_setRow hB hwb2 _⟩
      · go_wp2_with (refine wpList_store_row rfl 27 _ _ rfl b2 _ rfl rfl 27 _ hz (by kernel_rfl) rfl (by simp [Value.oneCell']) ?_)  ;(try simp only [Exit.inBlock, Exit.then]); refine bodyPost_ret (results_row3 rfl _ _ b2 27 _ _ rfl (setRow_heap _ _ _ _ _ _ hz) Tryd.underlying27 rfl (by kernel_rfl)) rfl ?_  ;have hp := HP.out
        rw [if_pos (by first | exact ⟨rfl, HFE.out⟩ | exact ⟨trivial, HFE.out⟩)] at hp  ;subst hp  ;exact ⟨rfl, below_setRow hB hwb2 _⟩
    · go_enter Tryd.func14, Tryd.ntmps14  ;go_wp2_with fail  ;have hpw := prep_worlds t ⟨ra, rf, rs⟩ w  ;(try dsimp only at hpw)  ;obtain ⟨w0, hw0, ht, hr, hz, hB⟩ := hpw  ;rw [hw0]  ;clear hw0  ;generalize hg1 : w.heap.size + 1 = b1 at *  ;generalize hg2 : b1 + 1 = b2 at *  ;have HB := hid (show b1 = w.heap.size + 1 ∧ b2 = b1 + 1 from ⟨hg1.symm, hg2.symm⟩)  ;have hwb2 : w.heap.size ≤ b2 := (by omega)  ;clear hg1 hg2  ;refine (HV.out _).mono ?_  ;rintro e w' ⟨rfl, hB1⟩  ;replace ht := ht.below hB1 ht.lt  ;replace hr := hr.below hB1 hr.lt  ;replace hz := hz.below hB1 hz.lt  ;replace hB := hB.trans (hB1.mono hB.size)  ;clear hB1  ;obtain ⟨tc0, tc1, tc2, tc3, tc4, tc5, tc6, tc7, tc8⟩ := tel_cells ht  ;have rc0 := hr.cell 0  ;have rc1 := hr.cell 1  ;have rc2 := hr.cell 2  ;simp only [List.getElem?_cons_succ, List.getElem?_cons_zero] at rc0 rc1 rc2  ;go_wp2_with fail  ;clear tc0 tc1 tc2 tc3 tc4 tc5 tc6 tc7 tc8 rc0 rc1 rc2  ;refine (HW.out _).mono ?_  ;rintro e w' ⟨rfl, hB1⟩  ;replace ht := ht.below hB1 ht.lt  ;replace hr := hr.below hB1 hr.lt  ;replace hz := hz.below hB1 hz.lt  ;replace hB := hB.trans (hB1.mono hB.size)  ;clear hB1  ;obtain ⟨tc0, tc1, tc2, tc3, tc4, tc5, tc6, tc7, tc8⟩ := tel_cells ht  ;have rc0 := hr.cell 0  ;have rc1 := hr.cell 1  ;have rc2 := hr.cell 2  ;simp only [List.getElem?_cons_succ, List.getElem?_cons_zero] at rc0 rc1 rc2
      cases rs
      · go_wp2_with fail  ;clear tc0 tc1 tc2 tc3 tc4 tc5 tc6 tc7 tc8 rc0 rc1 rc2  ;refine (HM.out _).mono ?_  ;rintro e w' ⟨rfl, hB1⟩  ;replace ht := ht.below hB1 ht.lt  ;replace hr := hr.below hB1 hr.lt  ;replace hz := hz.below hB1 hz.lt  ;replace hB := hB.trans (hB1.mono hB.size)  ;clear hB1  ;obtain ⟨tc0, tc1, tc2, tc3, tc4, tc5, tc6, tc7, tc8⟩ := tel_cells ht  ;have rc0 := hr.cell 0  ;have rc1 := hr.cell 1  ;have rc2 := hr.cell 2  ;simp only [List.getElem?_cons_succ, List.getElem?_cons_zero] at rc0 rc1 rc2  ;go_wp2_with fail  ;clear tc0 tc1 tc2 tc3 tc4 tc5 tc6 tc7 tc8 rc0 rc1 rc2  ;refine (HT.out _).mono ?_  ;rintro e w' ⟨rfl, hB1⟩  ;replace ht := ht.below hB1 ht.lt  ;replace hr := hr.below hB1 hr.lt  ;replace hz := hz.below hB1 hz.lt  ;replace hB := hB.trans (hB1.mono hB.size)  ;clear hB1  ;obtain ⟨tc0, tc1, tc2, tc3, tc4, tc5, tc6, tc7, tc8⟩ := tel_cells ht  ;have rc0 := hr.cell 0  ;have rc1 := hr.cell 1  ;have rc2 := hr.cell 2  ;simp only [List.getElem?_cons_succ, List.getElem?_cons_zero] at rc0 rc1 rc2
        go_wp2_with (refine wpList_store_row rfl 27 _ _ rfl b2 _ rfl rfl 27 _ hz (by kernel_rfl) rfl (by simp [Value.oneCell']) ?_)  ;(try simp only [Exit.inBlock, Exit.then]); refine bodyPost_ret (results_row3 rfl _ _ b2 27 _ _ rfl (setRow_heap _ _ _ _ _ _ hz) Tryd.underlying27 rfl (by kernel_rfl)) rfl ?_  ;have hp := HP.out
        rw [if_neg (by simp), if_neg (by first | exact h60 | exact Int.not_lt.2 h60)] at hp  ;subst hp  ;exact ⟨rfl, below_setRow hB hwb2 _⟩
      · go_wp2_with (refine wpList_store_row rfl 27 _ _ rfl b2 _ rfl rfl 27 _ hz (by kernel_rfl) rfl (by simp [Value.oneCell']) ?_)  ;(try simp only [Exit.inBlock, Exit.then]); refine bodyPost_ret (results_row3 rfl _ _ b2 27 _ _ rfl (setRow_heap _ _ _ _ _ _ hz) Tryd.underlying27 rfl (by kernel_rfl)) rfl ?_  ;have hp := HP.out
        rw [if_pos (by first | exact ⟨rfl, HFE.out⟩ | exact ⟨trivial, HFE.out⟩)] at hp  ;subst hp  ;exact ⟨rfl, below_setRow hB hwb2 _⟩
theorem rprep_any (t : Tel) (r : RigT) (c f : Int) (w : World) (hs : t.id.size ≤ 20000) : Calls Tryd.prog 14 #[telV t, rigV r, .int .i64 c, .int .i64 f] w fun e w' =>
    e = .returned (.tuple #[rigV (prepR t r c f).1, .int .i64 (prepR t r c f).2.1, .int .i64 (prepR t r c f).2.2]) ∧ Below w.heap.size w w' := by
  obtain ⟨ra, rf, rs⟩ := r
  cases h : (validB t ⟨ra, rf, rs⟩ && flB t f && colB c)
  · have e : prepR t ⟨ra, rf, rs⟩ c f = (rig0, 0, 1) := by unfold prepR; rw [h]; rfl
    rw [e]
    exact rprep_bad t ra rf rs c f w hs h
  · exact rprep_good t ra rf rs c f w hs h
end Go.Proofs.YthnkahilaampmaaDoor
