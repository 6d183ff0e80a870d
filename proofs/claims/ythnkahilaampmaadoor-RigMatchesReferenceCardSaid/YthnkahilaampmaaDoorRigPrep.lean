/- rig: Valid, Prepare -/
import Derived.Test.YthnkahilaampmaaDoorRigBase
namespace Go.Proofs.YthnkahilaampmaaDoor
open Go.RowKit

theorem max2_any (ao : Option Addr) (cap : Nat) (x y : Int) (w : World) (h : SlV w ao ([x, y].map (Value.int .i64))) :
    Calls Tryd.prog 23 #[.slice ao 2 cap] w fun e w' => e = .returned (.int .i64 (max x y)) ∧ w = w' := by
  obtain ⟨b, off, rfl, hb, c0⟩ := h.cell 0 (.int .i64 x) rfl
  obtain ⟨b', off', e, _, c1⟩ := h.cell 1 (.int .i64 y) rfl
  cases e
  rw [Nat.add_zero] at c0
  go_enter Tryd.func23, Tryd.ntmps23
  go_wp2_with fail
  go_loopw [3, 4] (fun s3 s4 wr => wr = w ∧ ((s3 = .int .i64 x ∧ s4 = .int .i64 1) ∨ (s3 = .int .i64 (max x y) ∧ s4 = .int .i64 2))) (fun _ s4 _ => 2 - (intOf s4).toNat)
  case atStart => exact ⟨rfl, .inl ⟨rfl, rfl⟩⟩
  case round =>
    obtain ⟨rfl, ⟨rfl, rfl⟩ | ⟨rfl, rfl⟩⟩ := hrel
    · by_cases hxy : x ≤ y
      · have e : max x y = y := by omega
        by_cases hyx : y ≤ x
        · have e2 : x = y := by omega
          subst e2
          go_wp2
          go_roundw
          case rel => exact ⟨trivial, .inr ⟨by first | rfl | simp, rfl⟩⟩
          case measure => simp [intOf]
        · go_wp2
          go_roundw
          case rel => exact ⟨trivial, .inr ⟨by first | rfl | (rw [e]) | simp [e], rfl⟩⟩
          case measure => simp [intOf]
      · have hyx : y ≤ x := by omega
        have e : max x y = x := by omega
        go_wp2
        go_roundw
        case rel => exact ⟨trivial, .inr ⟨by first | rfl | (rw [e]) | simp [e], rfl⟩⟩
        case measure => simp [intOf]
    · go_wp2
      go_ret
      exact ⟨rfl, rfl⟩

def validB (t : Tel) (r : RigT) : Bool := teleB t && decide (-48 ≤ r.at_ ∧ r.at_ ≤ 48) && flB t r.filter
set_option maxHeartbeats 2000000 in
set_option maxRecDepth 100000 in
theorem valid_any (t : Tel) (r : RigT) (w : World) (hs : t.id.size ≤ 1000000) : Calls Tryd.prog 15 #[telV t, rigV r] w fun e w' => e = .returned (.bool (validB t r)) ∧ Below w.heap.size w w' := by
  have HT := hid (fun w => tele_any t w hs)
  have hf := fun h => teleB_filters (t := t) h
  have HW1 := hid (fun w => within_any r.at_ (-48) 48 w)
  have HW2 := hid (fun w => within_any r.filter 0 (t.filters - 1) w)
  have h2 : flB t r.filter = decide (0 ≤ r.filter ∧ r.filter ≤ t.filters - 1) := rfl
  unfold validB
  rw [← h2] at HW2
  generalize teleB t = B1 at *
  generalize decide (-48 ≤ r.at_ ∧ r.at_ ≤ 48) = B2 at *
  generalize flB t r.filter = B3 at *
  obtain ⟨id, sa, sb, c, d1, d2, d3, d4, d5⟩ := t
  obtain ⟨ra, rf, rs⟩ := r
  dsimp only at *
  unfold telV rigV at *
  dsimp only at *
  clear h2
  go_enter Tryd.func15, Tryd.ntmps15
  go_wp2_with fail
  obtain ⟨w0, hw0⟩ : ∃ w0 : World, w0 = ((w.alloc (.cells #[.string id, .int .i64 sa, .int .i64 sb, .int .i64 c, .int .i64 d1, .int .i64 d2, .int .i64 d3, .int .i64 d4, .int .i64 d5] 25)).alloc (.cells #[.int .i64 ra, .int .i64 rf, .bool rs] 27)) := ⟨_, rfl⟩
  have ht0 : Blk w0 w.heap.size 25 [.string id, .int .i64 sa, .int .i64 sb, .int .i64 c, .int .i64 d1, .int .i64 d2, .int .i64 d3, .int .i64 d4, .int .i64 d5] := by
    subst hw0; exact (Blk.new w _ _).alloc _
  have hr0 : Blk w0 (w.heap.size + 1) 27 [.int .i64 ra, .int .i64 rf, .bool rs] := by
    subst hw0
    have := Blk.new (w.alloc (.cells #[.string id, .int .i64 sa, .int .i64 sb, .int .i64 c, .int .i64 d1, .int .i64 d2, .int .i64 d3, .int .i64 d4, .int .i64 d5] 25)) #[.int .i64 ra, .int .i64 rf, .bool rs] 27
    rw [World.size_alloc] at this
    exact this
  have hB0 : Below w.heap.size w w0 := by subst hw0; exact (below_alloc w _).alloc (by simp) _
  rw [← hw0]
  clear hw0
  refine (HT.out _).mono ?_
  rintro e w1 ⟨rfl, hB01⟩
  have c3 := (ht0.below hB01 ht0.lt).cell 3
  have r0 := (hr0.below hB01 hr0.lt).cell 0
  have r1 := (hr0.below hB01 hr0.lt).cell 1
  simp only [List.getElem?_cons_succ, List.getElem?_cons_zero] at c3 r0 r1
  have hB1 := hB0.trans (hB01.mono hB0.size)
  clear hB0 hB01 ht0 hr0
  cases B1
  · clear hf
    go_wp2_with fail
    go_ret
    exact ⟨rfl, hB1⟩
  obtain ⟨f1, f2⟩ := hf rfl
  clear hf
  go_wp2_with fail
  refine (HW1.out _).mono ?_
  rintro e w' ⟨rfl, rfl⟩
  cases B2
  · go_wp2_with fail
    go_ret
    exact ⟨rfl, hB1⟩
  go_wp2_with fail
  refine (HW2.out _).mono ?_
  rintro e w' ⟨rfl, rfl⟩
  go_wp2_with fail
  go_ret
  exact ⟨ret_bool (by first | rfl | simp), hB1⟩

/-- what Prepare gives: the rig, the cost, the error -/
def prepP (c : Int) (r : RigT) : Int := (planL r.at_ [c]).headD 0
def prepD (c : Int) (r : RigT) : Int := lenF [c] r.at_
def rig0 : RigT := ⟨0, 0, false⟩
def prepR (t : Tel) (r : RigT) (c f : Int) : RigT × Int × Int :=
  if (validB t r && flB t f && colB c) = true then
    (if prepP c r = r.at_ ∧ f = r.filter then (⟨prepP c r, f, r.stuck⟩, 0, 0)
     else if r.stuck = true ∧ f ≠ r.filter then (rig0, 0, 20)
     else if 60 < max (t.speed * prepD c r) (turnV t r.filter f) then (rig0, 0, 21)
     else (⟨prepP c r, f, r.stuck⟩, max (t.speed * prepD c r) (turnV t r.filter f), 0))
  else (rig0, 0, 1)

theorem colB_iff (c : Int) : colB c = true ↔ 0 ≤ c ∧ c < 32 := by unfold colB; simp
theorem validB_at {t : Tel} {r : RigT} (h : validB t r = true) : -48 ≤ r.at_ ∧ r.at_ ≤ 48 ∧ teleB t = true ∧ flB t r.filter = true := by
  unfold validB at h; simp at h; exact ⟨h.1.2.1, h.1.2.2, h.1.1, h.2⟩

theorem prep_worlds (t : Tel) (r : RigT) (w : World) : ∃ w0 : World, (((w.alloc (.cells #[.string t.id, .int .i64 t.site, .int .i64 t.speed, .int .i64 t.filters, .int .i64 t.d1, .int .i64 t.d2, .int .i64 t.d3, .int .i64 t.d4, .int .i64 t.d5] 25)).alloc (.cells #[.int .i64 r.at_, .int .i64 r.filter, .bool r.stuck] 27)).alloc (.cells #[.int .i64 0, .int .i64 0, .bool false] 27)) = w0 ∧ Blk w0 w.heap.size 25 (telCells t) ∧
    Blk w0 (w.heap.size + 1) 27 [.int .i64 r.at_, .int .i64 r.filter, .bool r.stuck] ∧ Blk w0 (w.heap.size + 1 + 1) 27 [.int .i64 0, .int .i64 0, .bool false] ∧ Below w.heap.size w w0 := by
  refine ⟨_, rfl, ((Blk.new w _ _).alloc _).alloc _, ?_, ?_, (((Below.refl _ w).alloc (Nat.le_refl _) _).alloc (by simp) _).alloc (by simp <;> omega) _⟩
  · have := Blk.new (w.alloc (.cells #[.string t.id, .int .i64 t.site, .int .i64 t.speed, .int .i64 t.filters, .int .i64 t.d1, .int .i64 t.d2, .int .i64 t.d3, .int .i64 t.d4, .int .i64 t.d5] 25)) #[.int .i64 r.at_, .int .i64 r.filter, .bool r.stuck] 27
    rw [World.size_alloc] at this
    exact this.alloc _
  · have := Blk.new ((w.alloc (.cells #[.string t.id, .int .i64 t.site, .int .i64 t.speed, .int .i64 t.filters, .int .i64 t.d1, .int .i64 t.d2, .int .i64 t.d3, .int .i64 t.d4, .int .i64 t.d5] 25)).alloc (.cells #[.int .i64 r.at_, .int .i64 r.filter, .bool r.stuck] 27)) #[.int .i64 0, .int .i64 0, .bool false] 27
    simp only [World.size_alloc] at this
    exact this


set_option maxHeartbeats 4000000 in
set_option maxRecDepth 100000 in
theorem prep_bad (t : Tel) (r : RigT) (c f : Int) (w : World) (hs : t.id.size ≤ 1000000) (h : (validB t r && flB t f && colB c) = false) : Calls Tryd.prog 13 #[telV t, rigV r, .int .i64 c, .int .i64 f] w fun e w' =>
    e = .returned (.tuple #[rigV rig0, .int .i64 0, .int .i64 1]) ∧ Below w.heap.size w w' := by
  have HV := hid (fun w => valid_any t r w hs)
  have HW := hid (fun w => within_any f 0 (t.filters - 1) w)
  have h2 : flB t f = decide (0 ≤ f ∧ f ≤ t.filters - 1) := rfl
  rw [← h2] at HW
  clear h2
  have hva := fun h => validB_at (t := t) (r := r) h
  have hfl := fun h => teleB_filters (t := t) h
  cases hv : validB t r
  · rw [hv] at HV
    clear h hva hfl hv
    unfold telV rigV at *
    go_enter Tryd.func13, Tryd.ntmps13  ;go_wp2_with fail  ;have hpw := prep_worlds t r w  ;(try dsimp only at hpw)  ;obtain ⟨w0, hw0, ht0, hr0, hz0, hB0⟩ := hpw  ;rw [hw0]  ;clear hw0  ;generalize hg1 : w.heap.size + 1 = b1 at *  ;generalize hg2 : b1 + 1 = b2 at *  ;have HB := hid (show b1 = w.heap.size + 1 ∧ b2 = b1 + 1 from ⟨hg1.symm, hg2.symm⟩)  ;have hwb2 : w.heap.size ≤ b2 := (by omega)  ;clear hg1 hg2  ;refine (HV.out _).mono ?_  ;rintro e w1 ⟨rfl, hB01⟩  ;have ht1 := ht0.below hB01 ht0.lt  ;have hr1 := hr0.below hB01 hr0.lt  ;have hz1 := hz0.below hB01 hz0.lt  ;have hB1 := hB0.trans (hB01.mono hB0.size)  ;have c2 := ht1.cell 2  ;have c3 := ht1.cell 3  ;have r0 := hr1.cell 0  ;have r1 := hr1.cell 1  ;have r2 := hr1.cell 2  ;simp only [telCells, List.getElem?_cons_succ, List.getElem?_cons_zero] at c2 c3 r0 r1 r2  ;clear hB0 hB01 ht0 hr0 hz0
    have hzz := hz1
    go_wp2_with (refine wpList_store_row rfl 27 _ _ rfl b2 _ rfl rfl 27 _ hzz (by kernel_rfl) rfl (by simp [Value.oneCell']) ?_)
    (try simp only [Exit.inBlock, Exit.then]); refine bodyPost_ret (results_row3 rfl _ _ b2 27 _ _ rfl (setRow_heap _ _ _ _ _ _ hzz) Tryd.underlying27 rfl (by kernel_rfl)) rfl ?_
    exact ⟨rfl, below_setRow hB1 hwb2 _⟩
  · rw [hv] at HV
    obtain ⟨at1, at2, htl, _⟩ := hva hv
    obtain ⟨f1, f2⟩ := hfl htl
    cases hf : flB t f
    · rw [hf] at HW
      clear h hva hfl hv hf htl
      unfold telV rigV at *
      go_enter Tryd.func13, Tryd.ntmps13  ;go_wp2_with fail  ;have hpw := prep_worlds t r w  ;(try dsimp only at hpw)  ;obtain ⟨w0, hw0, ht0, hr0, hz0, hB0⟩ := hpw  ;rw [hw0]  ;clear hw0  ;generalize hg1 : w.heap.size + 1 = b1 at *  ;generalize hg2 : b1 + 1 = b2 at *  ;have HB := hid (show b1 = w.heap.size + 1 ∧ b2 = b1 + 1 from ⟨hg1.symm, hg2.symm⟩)  ;have hwb2 : w.heap.size ≤ b2 := (by omega)  ;clear hg1 hg2  ;refine (HV.out _).mono ?_  ;rintro e w1 ⟨rfl, hB01⟩  ;have ht1 := ht0.below hB01 ht0.lt  ;have hr1 := hr0.below hB01 hr0.lt  ;have hz1 := hz0.below hB01 hz0.lt  ;have hB1 := hB0.trans (hB01.mono hB0.size)  ;have c2 := ht1.cell 2  ;have c3 := ht1.cell 3  ;have r0 := hr1.cell 0  ;have r1 := hr1.cell 1  ;have r2 := hr1.cell 2  ;simp only [telCells, List.getElem?_cons_succ, List.getElem?_cons_zero] at c2 c3 r0 r1 r2  ;clear hB0 hB01 ht0 hr0 hz0
      go_wp2_with fail
      refine (HW.out _).mono ?_
      rintro e w' ⟨rfl, rfl⟩
      have hzz := hz1
      go_wp2_with (refine wpList_store_row rfl 27 _ _ rfl b2 _ rfl rfl 27 _ hzz (by kernel_rfl) rfl (by simp [Value.oneCell']) ?_)
      (try simp only [Exit.inBlock, Exit.then]); refine bodyPost_ret (results_row3 rfl _ _ b2 27 _ _ rfl (setRow_heap _ _ _ _ _ _ hzz) Tryd.underlying27 rfl (by kernel_rfl)) rfl ?_
      exact ⟨rfl, below_setRow hB1 hwb2 _⟩
    · rw [hf] at HW
      have hc : colB c = false := by simpa [hv, hf] using h
      have hpk : planOk r.at_ [c] = false := by simp [planOk, hc]
      have HM := hid (fun w => move_not r.at_ c w hpk)
      clear h hva hfl hv hf htl hc hpk
      unfold telV rigV at *
      go_enter Tryd.func13, Tryd.ntmps13  ;go_wp2_with fail  ;have hpw := prep_worlds t r w  ;(try dsimp only at hpw)  ;obtain ⟨w0, hw0, ht0, hr0, hz0, hB0⟩ := hpw  ;rw [hw0]  ;clear hw0  ;generalize hg1 : w.heap.size + 1 = b1 at *  ;generalize hg2 : b1 + 1 = b2 at *  ;have HB := hid (show b1 = w.heap.size + 1 ∧ b2 = b1 + 1 from ⟨hg1.symm, hg2.symm⟩)  ;have hwb2 : w.heap.size ≤ b2 := (by omega)  ;clear hg1 hg2  ;refine (HV.out _).mono ?_  ;rintro e w1 ⟨rfl, hB01⟩  ;have ht1 := ht0.below hB01 ht0.lt  ;have hr1 := hr0.below hB01 hr0.lt  ;have hz1 := hz0.below hB01 hz0.lt  ;have hB1 := hB0.trans (hB01.mono hB0.size)  ;have c2 := ht1.cell 2  ;have c3 := ht1.cell 3  ;have r0 := hr1.cell 0  ;have r1 := hr1.cell 1  ;have r2 := hr1.cell 2  ;simp only [telCells, List.getElem?_cons_succ, List.getElem?_cons_zero] at c2 c3 r0 r1 r2  ;clear hB0 hB01 ht0 hr0 hz0
      go_wp2_with fail
      refine (HW.out _).mono ?_
      rintro e w' ⟨rfl, rfl⟩
      go_wp2_with fail
      refine (HM.out _).mono ?_
      rintro e w2 ⟨rfl, hB12⟩
      have hzz := hz1.below hB12 hz1.lt
      go_wp2_with (refine wpList_store_row rfl 27 _ _ rfl b2 _ rfl rfl 27 _ hzz (by kernel_rfl) rfl (by simp [Value.oneCell']) ?_)
      (try simp only [Exit.inBlock, Exit.then]); refine bodyPost_ret (results_row3 rfl _ _ b2 27 _ _ rfl (setRow_heap _ _ _ _ _ _ hzz) Tryd.underlying27 rfl (by kernel_rfl)) rfl ?_
      exact ⟨rfl, below_setRow (hB1.trans (hB12.mono hB1.size)) hwb2 _⟩

set_option maxHeartbeats 4000000 in
set_option maxRecDepth 100000 in
theorem prep_good (t : Tel) (r : RigT) (c f : Int) (w : World) (hs : t.id.size ≤ 1000000) (h : (validB t r && flB t f && colB c) = true) : Calls Tryd.prog 13 #[telV t, rigV r, .int .i64 c, .int .i64 f] w fun e w' =>
    e = .returned (.tuple #[rigV (prepR t r c f).1, .int .i64 (prepR t r c f).2.1, .int .i64 (prepR t r c f).2.2]) ∧ Below w.heap.size w w' := by
  have HV := hid (fun w => valid_any t r w hs)
  have HW := hid (fun w => within_any f 0 (t.filters - 1) w)
  have h2 : flB t f = decide (0 ≤ f ∧ f ≤ t.filters - 1) := rfl
  rw [← h2] at HW
  clear h2
  have h' := h
  simp only [Bool.and_eq_true] at h'
  obtain ⟨⟨hv, hf⟩, hc⟩ := h'
  rw [hv] at HV
  rw [hf] at HW
  obtain ⟨at1, at2, htl, hrf⟩ := validB_at hv
  obtain ⟨f1, f2⟩ := teleB_filters htl
  obtain ⟨s1, s2⟩ := teleB_speed htl
  have hpk : planOk r.at_ [c] = true := (planOk_iff _ _).2 ⟨⟨at1, at2⟩, by simp, fun x hx => by simp at hx; subst hx; exact (colB_iff _).1 hc⟩
  have hM := fun w => move_yes r.at_ c w hpk
  have hT := fun w => turn_any t r.filter f w hs
  have htb : turnB t r.filter f = true := by simp [turnB, htl, hrf, hf]
  have hd := lenF_bd [c] r.at_
  have hds := lenF_small [c] r.at_ ⟨at1, at2⟩ (fun x hx => by simp at hx; subst hx; exact (colB_iff _).1 hc)
  simp only [tV, tE, htb, if_true] at hT
  unfold prepR
  rw [if_pos h]
  have hp : prepP c r = (planL r.at_ [c]).headD 0 := rfl
  have hdd : prepD c r = lenF [c] r.at_ := rfl
  rw [← hp, ← hdd] at hM
  rw [← hdd] at hd hds
  generalize prepP c r = p at *
  generalize prepD c r = d at *
  generalize turnV t r.filter f = tv at *
  have HM := hid hM
  have HT := hid hT
  clear h hv hf hc htl hrf hpk hM hT htb hp hdd
  have d2 : d ≤ 96 := by simpa using hds
  have d1 := hd.1
  clear hd hds
  by_cases hsame : p = r.at_ ∧ f = r.filter
  · rw [if_pos hsame]
    obtain ⟨rfl, rfl⟩ := hsame
    unfold telV rigV at *
    go_enter Tryd.func13, Tryd.ntmps13  ;go_wp2_with fail  ;have hpw := prep_worlds t r w  ;(try dsimp only at hpw)  ;obtain ⟨w0, hw0, ht0, hr0, hz0, hB0⟩ := hpw  ;rw [hw0]  ;clear hw0  ;generalize hg1 : w.heap.size + 1 = b1 at *  ;generalize hg2 : b1 + 1 = b2 at *  ;have HB := hid (show b1 = w.heap.size + 1 ∧ b2 = b1 + 1 from ⟨hg1.symm, hg2.symm⟩)  ;have hwb2 : w.heap.size ≤ b2 := (by omega)  ;clear hg1 hg2  ;refine (HV.out _).mono ?_  ;rintro e w1 ⟨rfl, hB01⟩  ;have ht1 := ht0.below hB01 ht0.lt  ;have hr1 := hr0.below hB01 hr0.lt  ;have hz1 := hz0.below hB01 hz0.lt  ;have hB1 := hB0.trans (hB01.mono hB0.size)  ;have c2 := ht1.cell 2  ;have c3 := ht1.cell 3  ;have r0 := hr1.cell 0  ;have r1 := hr1.cell 1  ;have r2 := hr1.cell 2  ;simp only [telCells, List.getElem?_cons_succ, List.getElem?_cons_zero] at c2 c3 r0 r1 r2  ;clear hB0 hB01 ht0 hr0 hz0  ;go_wp2_with fail  ;refine (HW.out _).mono ?_  ;rintro e w' ⟨rfl, rfl⟩  ;go_wp2_with fail  ;refine (HM.out _).mono ?_  ;rintro e w2 ⟨rfl, hB12⟩  ;have ht2 := ht1.below hB12 ht1.lt  ;have hr2 := hr1.below hB12 hr1.lt  ;have hz2 := hz1.below hB12 hz1.lt  ;have hB2 := hB1.trans (hB12.mono hB1.size)  ;clear c2 c3 r0 r1 r2 ht1 hr1 hz1 hB1 hB12  ;have c2 := ht2.cell 2  ;have c3 := ht2.cell 3  ;have r0 := hr2.cell 0  ;have r1 := hr2.cell 1  ;have r2 := hr2.cell 2  ;simp only [telCells, List.getElem?_cons_succ, List.getElem?_cons_zero] at c2 c3 r0 r1 r2
    have ht3 := ht2.alloc (Obj.cells #[Value.int .i64 r.at_, Value.int .i64 r.filter, Value.bool r.stuck] 27)  ;have hr3 := hr2.alloc (Obj.cells #[Value.int .i64 r.at_, Value.int .i64 r.filter, Value.bool r.stuck] 27)  ;have hz3 := hz2.alloc (Obj.cells #[Value.int .i64 r.at_, Value.int .i64 r.filter, Value.bool r.stuck] 27)  ;have hn3 := Blk.new w2 #[Value.int .i64 r.at_, Value.int .i64 r.filter, Value.bool r.stuck] 27  ;have d2' := ht3.cell 2  ;have d3' := ht3.cell 3  ;have q0 := hr3.cell 0  ;have q1 := hr3.cell 1  ;have q2 := hr3.cell 2  ;have n0 := hn3.cell 0  ;have n1 := hn3.cell 1  ;have n2 := hn3.cell 2  ;simp only [telCells, List.getElem?_cons_succ, List.getElem?_cons_zero] at d2' d3' q0 q1 q2 n0 n1 n2  ;have hB3 := hB2.alloc hB2.size (Obj.cells #[Value.int .i64 r.at_, Value.int .i64 r.filter, Value.bool r.stuck] 27)
    have hzz := hz3
    go_wp2_with (refine wpList_store_row rfl 27 _ _ rfl b2 _ rfl rfl 27 _ hzz (by kernel_rfl) rfl (by simp [Value.oneCell']) ?_)
    (try simp only [Exit.inBlock, Exit.then]); refine bodyPost_ret (results_row3 rfl _ _ b2 27 _ _ rfl (setRow_heap _ _ _ _ _ _ hzz) Tryd.underlying27 rfl (by kernel_rfl)) rfl ?_
    exact ⟨rfl, below_setRow hB3 hwb2 _⟩
  · rw [if_neg hsame]
    have hbe : ((p == r.at_) && (f == r.filter)) = false := by
      cases h1 : p == r.at_ <;> cases h2 : f == r.filter <;> simp_all
    clear hsame
    obtain ⟨ra, rf, rs⟩ := r
    dsimp only at *
    by_cases hst : rs = true ∧ f ≠ rf
    · rw [if_pos hst]
      obtain ⟨rfl, hs2⟩ := hst
      have hf1 : (f == rf) = false := by rw [beq_eq_false_iff_ne]; exact hs2
      have hf2 : (f != rf) = true := by rw [bne_iff_ne]; exact hs2
      unfold telV rigV at *
      dsimp only at *
      clear hbe hs2
      go_enter Tryd.func13, Tryd.ntmps13  ;go_wp2_with fail  ;have hpw := prep_worlds t ⟨ra, rf, true⟩ w  ;(try dsimp only at hpw)  ;obtain ⟨w0, hw0, ht0, hr0, hz0, hB0⟩ := hpw  ;rw [hw0]  ;clear hw0  ;generalize hg1 : w.heap.size + 1 = b1 at *  ;generalize hg2 : b1 + 1 = b2 at *  ;have HB := hid (show b1 = w.heap.size + 1 ∧ b2 = b1 + 1 from ⟨hg1.symm, hg2.symm⟩)  ;have hwb2 : w.heap.size ≤ b2 := (by omega)  ;clear hg1 hg2  ;refine (HV.out _).mono ?_  ;rintro e w1 ⟨rfl, hB01⟩  ;have ht1 := ht0.below hB01 ht0.lt  ;have hr1 := hr0.below hB01 hr0.lt  ;have hz1 := hz0.below hB01 hz0.lt  ;have hB1 := hB0.trans (hB01.mono hB0.size)  ;have c2 := ht1.cell 2  ;have c3 := ht1.cell 3  ;have r0 := hr1.cell 0  ;have r1 := hr1.cell 1  ;have r2 := hr1.cell 2  ;simp only [telCells, List.getElem?_cons_succ, List.getElem?_cons_zero] at c2 c3 r0 r1 r2  ;clear hB0 hB01 ht0 hr0 hz0  ;go_wp2_with fail  ;refine (HW.out _).mono ?_  ;rintro e w' ⟨rfl, rfl⟩  ;go_wp2_with fail  ;refine (HM.out _).mono ?_  ;rintro e w2 ⟨rfl, hB12⟩  ;have ht2 := ht1.below hB12 ht1.lt  ;have hr2 := hr1.below hB12 hr1.lt  ;have hz2 := hz1.below hB12 hz1.lt  ;have hB2 := hB1.trans (hB12.mono hB1.size)  ;clear c2 c3 r0 r1 r2 ht1 hr1 hz1 hB1 hB12  ;have c2 := ht2.cell 2  ;have c3 := ht2.cell 3  ;have r0 := hr2.cell 0  ;have r1 := hr2.cell 1  ;have r2 := hr2.cell 2  ;simp only [telCells, List.getElem?_cons_succ, List.getElem?_cons_zero] at c2 c3 r0 r1 r2
      have ht3 := ht2.alloc (Obj.cells #[Value.int .i64 p, Value.int .i64 f, Value.bool true] 27)  ;have hr3 := hr2.alloc (Obj.cells #[Value.int .i64 p, Value.int .i64 f, Value.bool true] 27)  ;have hz3 := hz2.alloc (Obj.cells #[Value.int .i64 p, Value.int .i64 f, Value.bool true] 27)  ;have hn3 := Blk.new w2 #[Value.int .i64 p, Value.int .i64 f, Value.bool true] 27  ;have d2' := ht3.cell 2  ;have d3' := ht3.cell 3  ;have q0 := hr3.cell 0  ;have q1 := hr3.cell 1  ;have q2 := hr3.cell 2  ;have n0 := hn3.cell 0  ;have n1 := hn3.cell 1  ;have n2 := hn3.cell 2  ;simp only [telCells, List.getElem?_cons_succ, List.getElem?_cons_zero] at d2' d3' q0 q1 q2 n0 n1 n2  ;have hB3 := hB2.alloc hB2.size (Obj.cells #[Value.int .i64 p, Value.int .i64 f, Value.bool true] 27)
      have hzz := hz3
      go_wp2_with (refine wpList_store_row rfl 27 _ _ rfl b2 _ rfl rfl 27 _ hzz (by kernel_rfl) rfl (by simp [Value.oneCell']) ?_)
      (try simp only [Exit.inBlock, Exit.then]); refine bodyPost_ret (results_row3 rfl _ _ b2 27 _ _ rfl (setRow_heap _ _ _ _ _ _ hzz) Tryd.underlying27 rfl (by kernel_rfl)) rfl ?_
      exact ⟨rfl, below_setRow hB3 hwb2 _⟩
    · rw [if_neg hst]
      have hm1 : 0 ≤ t.speed * d := Int.mul_nonneg (by omega) d1
      have hm2 : t.speed * d ≤ 20 * 96 := Int.mul_le_mul (by omega) (by omega) d1 (by omega)
      have HOE := hid (fun h1 h2 => hst ⟨h1, h2⟩)
      by_cases hpe : p = ra
      · have hfe : ¬ f = rf := by
          rintro rfl
          simp [hpe] at hbe
        have hrs : rs = false := by
          cases rs with
          | false => rfl
          | true => exact (HOE.out rfl hfe).elim
        subst hrs
        have hf1 : (f == rf) = false := by rw [beq_eq_false_iff_ne]; exact hfe
        obtain rfl : ra = p := hpe.symm
        clear hbe hst HOE hpe
        unfold telV rigV at *
        dsimp only at *
        go_enter Tryd.func13, Tryd.ntmps13  ;go_wp2_with fail  ;have hpw := prep_worlds t ⟨ra, rf, false⟩ w  ;(try dsimp only at hpw)  ;obtain ⟨w0, hw0, ht0, hr0, hz0, hB0⟩ := hpw  ;rw [hw0]  ;clear hw0  ;generalize hg1 : w.heap.size + 1 = b1 at *  ;generalize hg2 : b1 + 1 = b2 at *  ;have HB := hid (show b1 = w.heap.size + 1 ∧ b2 = b1 + 1 from ⟨hg1.symm, hg2.symm⟩)  ;have hwb2 : w.heap.size ≤ b2 := (by omega)  ;clear hg1 hg2  ;refine (HV.out _).mono ?_  ;rintro e w1 ⟨rfl, hB01⟩  ;have ht1 := ht0.below hB01 ht0.lt  ;have hr1 := hr0.below hB01 hr0.lt  ;have hz1 := hz0.below hB01 hz0.lt  ;have hB1 := hB0.trans (hB01.mono hB0.size)  ;have c2 := ht1.cell 2  ;have c3 := ht1.cell 3  ;have r0 := hr1.cell 0  ;have r1 := hr1.cell 1  ;have r2 := hr1.cell 2  ;simp only [telCells, List.getElem?_cons_succ, List.getElem?_cons_zero] at c2 c3 r0 r1 r2  ;clear hB0 hB01 ht0 hr0 hz0
        go_wp2_with fail  ;refine (HW.out _).mono ?_  ;rintro e w' ⟨rfl, rfl⟩  ;go_wp2_with fail  ;refine (HM.out _).mono ?_  ;rintro e w2 ⟨rfl, hB12⟩  ;have ht2 := ht1.below hB12 ht1.lt  ;have hr2 := hr1.below hB12 hr1.lt  ;have hz2 := hz1.below hB12 hz1.lt  ;have hB2 := hB1.trans (hB12.mono hB1.size)  ;clear c2 c3 r0 r1 r2 ht1 hr1 hz1 hB1 hB12  ;have c2 := ht2.cell 2  ;have c3 := ht2.cell 3  ;have r0 := hr2.cell 0  ;have r1 := hr2.cell 1  ;have r2 := hr2.cell 2  ;simp only [telCells, List.getElem?_cons_succ, List.getElem?_cons_zero] at c2 c3 r0 r1 r2
        have ht3 := ht2.alloc (Obj.cells #[Value.int .i64 ra, Value.int .i64 f, Value.bool false] 27)  ;have hr3 := hr2.alloc (Obj.cells #[Value.int .i64 ra, Value.int .i64 f, Value.bool false] 27)  ;have hz3 := hz2.alloc (Obj.cells #[Value.int .i64 ra, Value.int .i64 f, Value.bool false] 27)  ;have hn3 := Blk.new w2 #[Value.int .i64 ra, Value.int .i64 f, Value.bool false] 27  ;have d2' := ht3.cell 2  ;have d3' := ht3.cell 3  ;have q0 := hr3.cell 0  ;have q1 := hr3.cell 1  ;have q2 := hr3.cell 2  ;have n0 := hn3.cell 0  ;have n1 := hn3.cell 1  ;have n2 := hn3.cell 2  ;simp only [telCells, List.getElem?_cons_succ, List.getElem?_cons_zero] at d2' d3' q0 q1 q2 n0 n1 n2  ;have hB3 := hB2.alloc hB2.size (Obj.cells #[Value.int .i64 ra, Value.int .i64 f, Value.bool false] 27)
        have hst4 := Blk.new (w2.alloc (Obj.cells #[Value.int .i64 ra, Value.int .i64 f, Value.bool false] 27)) #[Value.int .i64 (t.speed * d), Value.int .i64 0] 44  ;rw [World.size_alloc] at hst4  ;have ht4 := ht3.alloc (Obj.cells #[Value.int .i64 (t.speed * d), Value.int .i64 0] 44)  ;have hz4 := hz3.alloc (Obj.cells #[Value.int .i64 (t.speed * d), Value.int .i64 0] 44)  ;have hn4 := hn3.alloc (Obj.cells #[Value.int .i64 (t.speed * d), Value.int .i64 0] 44)  ;have hr4 := (hr3.alloc (Obj.cells #[Value.int .i64 (t.speed * d), Value.int .i64 0] 44)).cell 1  ;simp only [List.getElem?_cons_succ, List.getElem?_cons_zero] at hr4  ;have hB4 := hB3.alloc (by have := hB2.size; simp; omega) (Obj.cells #[Value.int .i64 (t.speed * d), Value.int .i64 0] 44)  ;have hlz2 := hz2.lt  ;have hsz2 := hB2.size  ;go_wp2_with (first | (refine wpList_load_row rfl 25 _ rfl w.heap.size rfl 25 _ (0, 0) _ ht4 Tryd.underlying25 rfl (by kernel_rfl) ?_))  ;refine (HT.out _).mono ?_  ;rintro e w5 ⟨rfl, hB45⟩  ;have hst5 := hst4.below hB45 hst4.lt  ;have hz5 := hz4.below hB45 hz4.lt  ;have hn5 := hn4.below hB45 hn4.lt  ;have hB5 := hB4.trans (hB45.mono hB4.size)  ;have sc := hst5.cell 1  ;have sf := hst5.free 1  ;simp only [List.getElem?_cons_succ, List.getElem?_cons_zero, Array.toList] at sc  ;go_wp2_with fail
        have hst6 : Blk (w5.setCell ⟨w2.heap.size + 1, 1, none⟩ (.int .i64 tv)) (w2.heap.size + 1) 44 [.int .i64 (t.speed * d), .int .i64 tv] := hst5.set 1 (.int .i64 tv)  ;have hz6 := hz5.other ⟨w2.heap.size + 1, 1, none⟩ (by show b2 ≠ w2.heap.size + 1; omega) (.int .i64 tv)  ;have hn6 := hn5.other ⟨w2.heap.size + 1, 1, none⟩ (by show w2.heap.size ≠ w2.heap.size + 1; omega) (.int .i64 tv)  ;have hB6 := hB5.setCell (p := ⟨w2.heap.size + 1, 1, none⟩) (by show w.heap.size ≤ w2.heap.size + 1; omega) (.int .i64 tv)  ;have hsl6 : SlV (w5.setCell ⟨w2.heap.size + 1, 1, none⟩ (.int .i64 tv)) (some ⟨w2.heap.size + 1, 0, none⟩) ([t.speed * d, tv].map (Value.int .i64)) := ⟨by simp [maxLen], fun i x hi => ⟨w2.heap.size + 1, 0, rfl, hst6.lt, by rw [hst6.cell, Nat.zero_add]; exact hi⟩⟩  ;refine (max2_any _ _ _ _ _ hsl6).mono ?_  ;rintro e w' ⟨rfl, hw'⟩  ;rw [← hw']  ;clear hw'  ;skip  ;have hzz := hz6  ;by_cases h60 : 60 < max (t.speed * d) tv
        · go_wp2_with (refine wpList_store_row rfl 27 _ _ rfl b2 _ rfl rfl 27 _ hzz (by kernel_rfl) rfl (by simp [Value.oneCell']) ?_)  ;(try simp only [Exit.inBlock, Exit.then]); refine bodyPost_ret (results_row3 rfl _ _ b2 27 _ _ rfl (setRow_heap _ _ _ _ _ _ hzz) Tryd.underlying27 rfl (by kernel_rfl)) rfl ?_  ;simp only [if_pos h60]  ;exact ⟨rfl, below_setRow hB6 hwb2 _⟩
        · go_wp2_with (first | (refine wpList_load_row rfl 27 _ rfl w2.heap.size rfl 27 _ (0, 0) _ hn6 Tryd.underlying27 rfl (by kernel_rfl) ?_) | (refine wpList_store_row rfl 27 _ _ rfl b2 _ rfl rfl 27 _ hzz (by kernel_rfl) rfl (by simp [Value.oneCell']) ?_))  ;(try simp only [Exit.inBlock, Exit.then]); refine bodyPost_ret (results_row3 rfl _ _ b2 27 _ _ rfl (setRow_heap _ _ _ _ _ _ hzz) Tryd.underlying27 rfl (by kernel_rfl)) rfl ?_  ;simp only [if_neg (Int.not_lt.2 h60)]  ;exact ⟨rfl, below_setRow hB6 hwb2 _⟩
      · have hpe1 : (p == ra) = false := by rw [beq_eq_false_iff_ne]; exact hpe
        cases rs with
        | false =>
          clear hbe hst HOE
          unfold telV rigV at *
          dsimp only at *
          go_enter Tryd.func13, Tryd.ntmps13  ;go_wp2_with fail  ;have hpw := prep_worlds t ⟨ra, rf, false⟩ w  ;(try dsimp only at hpw)  ;obtain ⟨w0, hw0, ht0, hr0, hz0, hB0⟩ := hpw  ;rw [hw0]  ;clear hw0  ;generalize hg1 : w.heap.size + 1 = b1 at *  ;generalize hg2 : b1 + 1 = b2 at *  ;have HB := hid (show b1 = w.heap.size + 1 ∧ b2 = b1 + 1 from ⟨hg1.symm, hg2.symm⟩)  ;have hwb2 : w.heap.size ≤ b2 := (by omega)  ;clear hg1 hg2  ;refine (HV.out _).mono ?_  ;rintro e w1 ⟨rfl, hB01⟩  ;have ht1 := ht0.below hB01 ht0.lt  ;have hr1 := hr0.below hB01 hr0.lt  ;have hz1 := hz0.below hB01 hz0.lt  ;have hB1 := hB0.trans (hB01.mono hB0.size)  ;have c2 := ht1.cell 2  ;have c3 := ht1.cell 3  ;have r0 := hr1.cell 0  ;have r1 := hr1.cell 1  ;have r2 := hr1.cell 2  ;simp only [telCells, List.getElem?_cons_succ, List.getElem?_cons_zero] at c2 c3 r0 r1 r2  ;clear hB0 hB01 ht0 hr0 hz0
          go_wp2_with fail  ;refine (HW.out _).mono ?_  ;rintro e w' ⟨rfl, rfl⟩  ;go_wp2_with fail  ;refine (HM.out _).mono ?_  ;rintro e w2 ⟨rfl, hB12⟩  ;have ht2 := ht1.below hB12 ht1.lt  ;have hr2 := hr1.below hB12 hr1.lt  ;have hz2 := hz1.below hB12 hz1.lt  ;have hB2 := hB1.trans (hB12.mono hB1.size)  ;clear c2 c3 r0 r1 r2 ht1 hr1 hz1 hB1 hB12  ;have c2 := ht2.cell 2  ;have c3 := ht2.cell 3  ;have r0 := hr2.cell 0  ;have r1 := hr2.cell 1  ;have r2 := hr2.cell 2  ;simp only [telCells, List.getElem?_cons_succ, List.getElem?_cons_zero] at c2 c3 r0 r1 r2
          have ht3 := ht2.alloc (Obj.cells #[Value.int .i64 p, Value.int .i64 f, Value.bool false] 27)  ;have hr3 := hr2.alloc (Obj.cells #[Value.int .i64 p, Value.int .i64 f, Value.bool false] 27)  ;have hz3 := hz2.alloc (Obj.cells #[Value.int .i64 p, Value.int .i64 f, Value.bool false] 27)  ;have hn3 := Blk.new w2 #[Value.int .i64 p, Value.int .i64 f, Value.bool false] 27  ;have d2' := ht3.cell 2  ;have d3' := ht3.cell 3  ;have q0 := hr3.cell 0  ;have q1 := hr3.cell 1  ;have q2 := hr3.cell 2  ;have n0 := hn3.cell 0  ;have n1 := hn3.cell 1  ;have n2 := hn3.cell 2  ;simp only [telCells, List.getElem?_cons_succ, List.getElem?_cons_zero] at d2' d3' q0 q1 q2 n0 n1 n2  ;have hB3 := hB2.alloc hB2.size (Obj.cells #[Value.int .i64 p, Value.int .i64 f, Value.bool false] 27)
          have hst4 := Blk.new (w2.alloc (Obj.cells #[Value.int .i64 p, Value.int .i64 f, Value.bool false] 27)) #[Value.int .i64 (t.speed * d), Value.int .i64 0] 44  ;rw [World.size_alloc] at hst4  ;have ht4 := ht3.alloc (Obj.cells #[Value.int .i64 (t.speed * d), Value.int .i64 0] 44)  ;have hz4 := hz3.alloc (Obj.cells #[Value.int .i64 (t.speed * d), Value.int .i64 0] 44)  ;have hn4 := hn3.alloc (Obj.cells #[Value.int .i64 (t.speed * d), Value.int .i64 0] 44)  ;have hr4 := (hr3.alloc (Obj.cells #[Value.int .i64 (t.speed * d), Value.int .i64 0] 44)).cell 1  ;simp only [List.getElem?_cons_succ, List.getElem?_cons_zero] at hr4  ;have hB4 := hB3.alloc (by have := hB2.size; simp; omega) (Obj.cells #[Value.int .i64 (t.speed * d), Value.int .i64 0] 44)  ;have hlz2 := hz2.lt  ;have hsz2 := hB2.size  ;go_wp2_with (first | (refine wpList_load_row rfl 25 _ rfl w.heap.size rfl 25 _ (0, 0) _ ht4 Tryd.underlying25 rfl (by kernel_rfl) ?_))  ;refine (HT.out _).mono ?_  ;rintro e w5 ⟨rfl, hB45⟩  ;have hst5 := hst4.below hB45 hst4.lt  ;have hz5 := hz4.below hB45 hz4.lt  ;have hn5 := hn4.below hB45 hn4.lt  ;have hB5 := hB4.trans (hB45.mono hB4.size)  ;have sc := hst5.cell 1  ;have sf := hst5.free 1  ;simp only [List.getElem?_cons_succ, List.getElem?_cons_zero, Array.toList] at sc  ;go_wp2_with fail
          have hst6 : Blk (w5.setCell ⟨w2.heap.size + 1, 1, none⟩ (.int .i64 tv)) (w2.heap.size + 1) 44 [.int .i64 (t.speed * d), .int .i64 tv] := hst5.set 1 (.int .i64 tv)  ;have hz6 := hz5.other ⟨w2.heap.size + 1, 1, none⟩ (by show b2 ≠ w2.heap.size + 1; omega) (.int .i64 tv)  ;have hn6 := hn5.other ⟨w2.heap.size + 1, 1, none⟩ (by show w2.heap.size ≠ w2.heap.size + 1; omega) (.int .i64 tv)  ;have hB6 := hB5.setCell (p := ⟨w2.heap.size + 1, 1, none⟩) (by show w.heap.size ≤ w2.heap.size + 1; omega) (.int .i64 tv)  ;have hsl6 : SlV (w5.setCell ⟨w2.heap.size + 1, 1, none⟩ (.int .i64 tv)) (some ⟨w2.heap.size + 1, 0, none⟩) ([t.speed * d, tv].map (Value.int .i64)) := ⟨by simp [maxLen], fun i x hi => ⟨w2.heap.size + 1, 0, rfl, hst6.lt, by rw [hst6.cell, Nat.zero_add]; exact hi⟩⟩  ;refine (max2_any _ _ _ _ _ hsl6).mono ?_  ;rintro e w' ⟨rfl, hw'⟩  ;rw [← hw']  ;clear hw'  ;skip  ;have hzz := hz6  ;by_cases h60 : 60 < max (t.speed * d) tv
          · go_wp2_with (refine wpList_store_row rfl 27 _ _ rfl b2 _ rfl rfl 27 _ hzz (by kernel_rfl) rfl (by simp [Value.oneCell']) ?_)  ;(try simp only [Exit.inBlock, Exit.then]); refine bodyPost_ret (results_row3 rfl _ _ b2 27 _ _ rfl (setRow_heap _ _ _ _ _ _ hzz) Tryd.underlying27 rfl (by kernel_rfl)) rfl ?_  ;simp only [if_pos h60]  ;exact ⟨rfl, below_setRow hB6 hwb2 _⟩
          · go_wp2_with (first | (refine wpList_load_row rfl 27 _ rfl w2.heap.size rfl 27 _ (0, 0) _ hn6 Tryd.underlying27 rfl (by kernel_rfl) ?_) | (refine wpList_store_row rfl 27 _ _ rfl b2 _ rfl rfl 27 _ hzz (by kernel_rfl) rfl (by simp [Value.oneCell']) ?_))  ;(try simp only [Exit.inBlock, Exit.then]); refine bodyPost_ret (results_row3 rfl _ _ b2 27 _ _ rfl (setRow_heap _ _ _ _ _ _ hzz) Tryd.underlying27 rfl (by kernel_rfl)) rfl ?_  ;simp only [if_neg (Int.not_lt.2 h60)]  ;exact ⟨rfl, below_setRow hB6 hwb2 _⟩
        | true =>
          have hfe : rf = f := by
            rcases Decidable.em (f = rf) with h | h
            · exact h.symm
            · exact (HOE.out rfl h).elim
          obtain rfl := hfe
          clear hbe hst HOE
          unfold telV rigV at *
          dsimp only at *
          go_enter Tryd.func13, Tryd.ntmps13  ;go_wp2_with fail  ;have hpw := prep_worlds t ⟨ra, rf, true⟩ w  ;(try dsimp only at hpw)  ;obtain ⟨w0, hw0, ht0, hr0, hz0, hB0⟩ := hpw  ;rw [hw0]  ;clear hw0  ;generalize hg1 : w.heap.size + 1 = b1 at *  ;generalize hg2 : b1 + 1 = b2 at *  ;have HB := hid (show b1 = w.heap.size + 1 ∧ b2 = b1 + 1 from ⟨hg1.symm, hg2.symm⟩)  ;have hwb2 : w.heap.size ≤ b2 := (by omega)  ;clear hg1 hg2  ;refine (HV.out _).mono ?_  ;rintro e w1 ⟨rfl, hB01⟩  ;have ht1 := ht0.below hB01 ht0.lt  ;have hr1 := hr0.below hB01 hr0.lt  ;have hz1 := hz0.below hB01 hz0.lt  ;have hB1 := hB0.trans (hB01.mono hB0.size)  ;have c2 := ht1.cell 2  ;have c3 := ht1.cell 3  ;have r0 := hr1.cell 0  ;have r1 := hr1.cell 1  ;have r2 := hr1.cell 2  ;simp only [telCells, List.getElem?_cons_succ, List.getElem?_cons_zero] at c2 c3 r0 r1 r2  ;clear hB0 hB01 ht0 hr0 hz0
          go_wp2_with fail  ;refine (HW.out _).mono ?_  ;rintro e w' ⟨rfl, rfl⟩  ;go_wp2_with fail  ;refine (HM.out _).mono ?_  ;rintro e w2 ⟨rfl, hB12⟩  ;have ht2 := ht1.below hB12 ht1.lt  ;have hr2 := hr1.below hB12 hr1.lt  ;have hz2 := hz1.below hB12 hz1.lt  ;have hB2 := hB1.trans (hB12.mono hB1.size)  ;clear c2 c3 r0 r1 r2 ht1 hr1 hz1 hB1 hB12  ;have c2 := ht2.cell 2  ;have c3 := ht2.cell 3  ;have r0 := hr2.cell 0  ;have r1 := hr2.cell 1  ;have r2 := hr2.cell 2  ;simp only [telCells, List.getElem?_cons_succ, List.getElem?_cons_zero] at c2 c3 r0 r1 r2
          have ht3 := ht2.alloc (Obj.cells #[Value.int .i64 p, Value.int .i64 rf, Value.bool true] 27)  ;have hr3 := hr2.alloc (Obj.cells #[Value.int .i64 p, Value.int .i64 rf, Value.bool true] 27)  ;have hz3 := hz2.alloc (Obj.cells #[Value.int .i64 p, Value.int .i64 rf, Value.bool true] 27)  ;have hn3 := Blk.new w2 #[Value.int .i64 p, Value.int .i64 rf, Value.bool true] 27  ;have d2' := ht3.cell 2  ;have d3' := ht3.cell 3  ;have q0 := hr3.cell 0  ;have q1 := hr3.cell 1  ;have q2 := hr3.cell 2  ;have n0 := hn3.cell 0  ;have n1 := hn3.cell 1  ;have n2 := hn3.cell 2  ;simp only [telCells, List.getElem?_cons_succ, List.getElem?_cons_zero] at d2' d3' q0 q1 q2 n0 n1 n2  ;have hB3 := hB2.alloc hB2.size (Obj.cells #[Value.int .i64 p, Value.int .i64 rf, Value.bool true] 27)
          have hst4 := Blk.new (w2.alloc (Obj.cells #[Value.int .i64 p, Value.int .i64 rf, Value.bool true] 27)) #[Value.int .i64 (t.speed * d), Value.int .i64 0] 44  ;rw [World.size_alloc] at hst4  ;have ht4 := ht3.alloc (Obj.cells #[Value.int .i64 (t.speed * d), Value.int .i64 0] 44)  ;have hz4 := hz3.alloc (Obj.cells #[Value.int .i64 (t.speed * d), Value.int .i64 0] 44)  ;have hn4 := hn3.alloc (Obj.cells #[Value.int .i64 (t.speed * d), Value.int .i64 0] 44)  ;have hr4 := (hr3.alloc (Obj.cells #[Value.int .i64 (t.speed * d), Value.int .i64 0] 44)).cell 1  ;simp only [List.getElem?_cons_succ, List.getElem?_cons_zero] at hr4  ;have hB4 := hB3.alloc (by have := hB2.size; simp; omega) (Obj.cells #[Value.int .i64 (t.speed * d), Value.int .i64 0] 44)  ;have hlz2 := hz2.lt  ;have hsz2 := hB2.size  ;go_wp2_with (first | (refine wpList_load_row rfl 25 _ rfl w.heap.size rfl 25 _ (0, 0) _ ht4 Tryd.underlying25 rfl (by kernel_rfl) ?_))  ;refine (HT.out _).mono ?_  ;rintro e w5 ⟨rfl, hB45⟩  ;have hst5 := hst4.below hB45 hst4.lt  ;have hz5 := hz4.below hB45 hz4.lt  ;have hn5 := hn4.below hB45 hn4.lt  ;have hB5 := hB4.trans (hB45.mono hB4.size)  ;have sc := hst5.cell 1  ;have sf := hst5.free 1  ;simp only [List.getElem?_cons_succ, List.getElem?_cons_zero, Array.toList] at sc  ;go_wp2_with fail
          have hst6 : Blk (w5.setCell ⟨w2.heap.size + 1, 1, none⟩ (.int .i64 tv)) (w2.heap.size + 1) 44 [.int .i64 (t.speed * d), .int .i64 tv] := hst5.set 1 (.int .i64 tv)  ;have hz6 := hz5.other ⟨w2.heap.size + 1, 1, none⟩ (by show b2 ≠ w2.heap.size + 1; omega) (.int .i64 tv)  ;have hn6 := hn5.other ⟨w2.heap.size + 1, 1, none⟩ (by show w2.heap.size ≠ w2.heap.size + 1; omega) (.int .i64 tv)  ;have hB6 := hB5.setCell (p := ⟨w2.heap.size + 1, 1, none⟩) (by show w.heap.size ≤ w2.heap.size + 1; omega) (.int .i64 tv)  ;have hsl6 : SlV (w5.setCell ⟨w2.heap.size + 1, 1, none⟩ (.int .i64 tv)) (some ⟨w2.heap.size + 1, 0, none⟩) ([t.speed * d, tv].map (Value.int .i64)) := ⟨by simp [maxLen], fun i x hi => ⟨w2.heap.size + 1, 0, rfl, hst6.lt, by rw [hst6.cell, Nat.zero_add]; exact hi⟩⟩  ;refine (max2_any _ _ _ _ _ hsl6).mono ?_  ;rintro e w' ⟨rfl, hw'⟩  ;rw [← hw']  ;clear hw'  ;skip  ;have hzz := hz6  ;by_cases h60 : 60 < max (t.speed * d) tv
          · go_wp2_with (refine wpList_store_row rfl 27 _ _ rfl b2 _ rfl rfl 27 _ hzz (by kernel_rfl) rfl (by simp [Value.oneCell']) ?_)  ;(try simp only [Exit.inBlock, Exit.then]); refine bodyPost_ret (results_row3 rfl _ _ b2 27 _ _ rfl (setRow_heap _ _ _ _ _ _ hzz) Tryd.underlying27 rfl (by kernel_rfl)) rfl ?_  ;simp only [if_pos h60]  ;exact ⟨rfl, below_setRow hB6 hwb2 _⟩
          · go_wp2_with (first | (refine wpList_load_row rfl 27 _ rfl w2.heap.size rfl 27 _ (0, 0) _ hn6 Tryd.underlying27 rfl (by kernel_rfl) ?_) | (refine wpList_store_row rfl 27 _ _ rfl b2 _ rfl rfl 27 _ hzz (by kernel_rfl) rfl (by simp [Value.oneCell']) ?_))  ;(try simp only [Exit.inBlock, Exit.then]); refine bodyPost_ret (results_row3 rfl _ _ b2 27 _ _ rfl (setRow_heap _ _ _ _ _ _ hzz) Tryd.underlying27 rfl (by kernel_rfl)) rfl ?_  ;simp only [if_neg (Int.not_lt.2 h60)]  ;exact ⟨rfl, below_setRow hB6 hwb2 _⟩

theorem prep_any (t : Tel) (r : RigT) (c f : Int) (w : World) (hs : t.id.size ≤ 1000000) : Calls Tryd.prog 13 #[telV t, rigV r, .int .i64 c, .int .i64 f] w fun e w' =>
    e = .returned (.tuple #[rigV (prepR t r c f).1, .int .i64 (prepR t r c f).2.1, .int .i64 (prepR t r c f).2.2]) ∧ Below w.heap.size w w' := by
  cases h : (validB t r && flB t f && colB c)
  · have e : prepR t r c f = (rig0, 0, 1) := by unfold prepR; rw [h]; rfl
    rw [e]
    exact prep_bad t r c f w hs h
  · exact prep_good t r c f w hs h
end Go.Proofs.YthnkahilaampmaaDoor
