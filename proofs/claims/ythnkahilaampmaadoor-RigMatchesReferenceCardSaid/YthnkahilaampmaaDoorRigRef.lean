/- rig: the reference -/
import Derived.Test.YthnkahilaampmaaDoorRigName
import Derived.Test.YthnkahilaampmaaDoorRigLaw2
import Derived.Test.YthnkahilaampmaaDoorMountRef2
namespace Go.Proofs.YthnkahilaampmaaDoor
open Go.RowKit

set_option maxHeartbeats 2000000 in
set_option maxRecDepth 100000 in
theorem rtele_any (t : Tel) (w : World) (hs : t.id.size ≤ 20000) : Calls Tryd.prog 21 #[telV t] w fun e w' => e = .returned (.bool (teleB t)) ∧ Below w.heap.size w w' := by
  obtain ⟨id, a, b, c, d1, d2, d3, d4, d5⟩ := t
  dsimp only at hs
  have hN := fun w => rname_any id w (by omega)
  rw [← idB_name _ (by rw [← Lib.size_eq]; exact hs)] at hN
  have HN := hid hN
  unfold teleB telV
  dsimp only
  clear hN
  generalize idB id.data.toList = B1 at *
  obtain ⟨R, HR⟩ : ∃ R, Hid ((B1 && decide (0 ≤ a ∧ a ≤ 15) && decide (1 ≤ b ∧ b ≤ 20) && decide (1 ≤ c ∧ c ≤ 8)) = R) := ⟨_, hid rfl⟩
  rw [HR.out]
  go_enter Tryd.func21, Tryd.ntmps21
  go_wp2_with fail
  have hbn := Blk.new w #[.string id, .int .i64 a, .int .i64 b, .int .i64 c, .int .i64 d1, .int .i64 d2, .int .i64 d3, .int .i64 d4, .int .i64 d5] 25
  have c1 := hbn.cell 1
  have c2 := hbn.cell 2
  have c3 := hbn.cell 3
  simp only [List.getElem?_cons_succ, List.getElem?_cons_zero] at c1 c2 c3
  clear hbn
  refine (HN.out _).mono ?_
  rintro e w' ⟨rfl, rfl⟩
  cases B1
  · go_wp2_with fail  ;go_ret  ;refine ⟨ret_bool ?_, below_alloc w _⟩  ;rw [← HR.out]  ;first | rfl | (simp; done) | (simp; omega) | (rw [Bool.eq_iff_iff]; simp; omega)
  by_cases q1 : 0 ≤ a
  rotate_left
  · go_wp2_with fail  ;go_ret  ;refine ⟨ret_bool ?_, below_alloc w _⟩  ;rw [← HR.out]  ;first | rfl | (simp; done) | (simp; omega) | (rw [Bool.eq_iff_iff]; simp; omega)
  by_cases q2 : a ≤ 15
  rotate_left
  · go_wp2_with fail  ;go_ret  ;refine ⟨ret_bool ?_, below_alloc w _⟩  ;rw [← HR.out]  ;first | rfl | (simp; done) | (simp; omega) | (rw [Bool.eq_iff_iff]; simp; omega)
  by_cases q3 : 1 ≤ b
  rotate_left
  · go_wp2_with fail  ;go_ret  ;refine ⟨ret_bool ?_, below_alloc w _⟩  ;rw [← HR.out]  ;first | rfl | (simp; done) | (simp; omega) | (rw [Bool.eq_iff_iff]; simp; omega)
  by_cases q4 : b ≤ 20
  rotate_left
  · go_wp2_with fail  ;go_ret  ;refine ⟨ret_bool ?_, below_alloc w _⟩  ;rw [← HR.out]  ;first | rfl | (simp; done) | (simp; omega) | (rw [Bool.eq_iff_iff]; simp; omega)
  by_cases q5 : 1 ≤ c
  rotate_left
  · go_wp2_with fail  ;go_ret  ;refine ⟨ret_bool ?_, below_alloc w _⟩  ;rw [← HR.out]  ;first | rfl | (simp; done) | (simp; omega) | (rw [Bool.eq_iff_iff]; simp; omega)
  by_cases q6 : c ≤ 8
  rotate_left
  · go_wp2_with fail  ;go_ret  ;refine ⟨ret_bool ?_, below_alloc w _⟩  ;rw [← HR.out]  ;first | rfl | (simp; done) | (simp; omega) | (rw [Bool.eq_iff_iff]; simp; omega)
  · go_wp2_with fail  ;go_ret  ;refine ⟨ret_bool ?_, below_alloc w _⟩  ;rw [← HR.out]  ;first | rfl | (simp; done) | (simp; omega) | (rw [Bool.eq_iff_iff]; simp; omega)

set_option maxHeartbeats 1000000 in
set_option maxRecDepth 100000 in
theorem rfilter_any (t : Tel) (n : Int) (w : World) : Calls Tryd.prog 22 #[telV t, .int .i64 n] w fun e w' => e = .returned (.bool (flB t n)) ∧ Below w.heap.size w w' := by
  obtain ⟨id, a, b, c, d1, d2, d3, d4, d5⟩ := t
  obtain ⟨R, HR⟩ : ∃ R, Hid (decide (0 ≤ n ∧ n ≤ c - 1) = R) := ⟨_, hid rfl⟩
  unfold flB telV
  dsimp only
  rw [HR.out]
  by_cases q1 : 0 ≤ n
  · by_cases q2 : n < c
    · go_enter Tryd.func22, Tryd.ntmps22
      go_wp2_with fail  ;go_ret  ;refine ⟨ret_bool ?_, below_alloc w _⟩  ;rw [← HR.out]  ;first | rfl | (simp; done) | (simp; omega) | (rw [Bool.eq_iff_iff]; simp; omega)
    · go_enter Tryd.func22, Tryd.ntmps22
      go_wp2_with fail  ;go_ret  ;refine ⟨ret_bool ?_, below_alloc w _⟩  ;rw [← HR.out]  ;first | rfl | (simp; done) | (simp; omega) | (rw [Bool.eq_iff_iff]; simp; omega)
  · go_enter Tryd.func22, Tryd.ntmps22
    go_wp2_with fail  ;go_ret  ;refine ⟨ret_bool ?_, below_alloc w _⟩  ;rw [← HR.out]  ;first | rfl | (simp; done) | (simp; omega) | (rw [Bool.eq_iff_iff]; simp; omega)

set_option maxHeartbeats 2000000 in
set_option maxRecDepth 100000 in
theorem rvalid_any (t : Tel) (r : RigT) (w : World) (hs : t.id.size ≤ 20000) : Calls Tryd.prog 16 #[telV t, rigV r] w fun e w' => e = .returned (.bool (validB t r)) ∧ Below w.heap.size w w' := by
  have HT := hid (fun w => rtele_any t w hs)
  have HF := hid (fun w => rfilter_any t r.filter w)
  unfold validB
  generalize teleB t = B1 at *
  generalize flB t r.filter = B2 at *
  obtain ⟨R, HR⟩ : ∃ R, Hid ((B1 && decide (-48 ≤ r.at_ ∧ r.at_ ≤ 48) && B2) = R) := ⟨_, hid rfl⟩
  rw [HR.out]
  clear hs
  rw [telV_eq, rigV_eq] at *
  go_enter Tryd.func16, Tryd.ntmps16
  go_wp2_with fail
  obtain ⟨w0, hw0, ht, hr, hB⟩ := telrig_world t r w
  rw [hw0]
  clear hw0
  refine (HT.out _).mono ?_
  rintro e w' ⟨rfl, hB1⟩  ;replace ht := ht.below hB1 ht.lt  ;replace hr := hr.below hB1 hr.lt  ;replace hB := hB.trans (hB1.mono hB.size)  ;clear hB1  ;obtain ⟨tc0, tc1, tc2, tc3, tc4, tc5, tc6, tc7, tc8⟩ := tel_cells ht  ;obtain ⟨rc0, rc1, rc2⟩ := rig_cells hr
  cases B1
  · go_wp2_with fail  ;go_ret  ;refine ⟨ret_bool ?_, hB⟩  ;rw [← HR.out]  ;first | rfl | (simp; done) | (simp; omega) | (rw [Bool.eq_iff_iff]; simp; omega)
  by_cases q1 : -48 ≤ r.at_
  rotate_left
  · go_wp2_with fail  ;go_ret  ;refine ⟨ret_bool ?_, hB⟩  ;rw [← HR.out]  ;first | rfl | (simp; done) | (simp; omega) | (rw [Bool.eq_iff_iff]; simp; omega)
  by_cases q2 : r.at_ ≤ 48
  rotate_left
  · go_wp2_with fail  ;go_ret  ;refine ⟨ret_bool ?_, hB⟩  ;rw [← HR.out]  ;first | rfl | (simp; done) | (simp; omega) | (rw [Bool.eq_iff_iff]; simp; omega)
  go_wp2_with fail
  clear tc0 tc1 tc2 tc3 tc4 tc5 tc6 tc7 tc8 rc0 rc1 rc2
  refine (HF.out _).mono ?_
  rintro e w' ⟨rfl, hB1⟩  ;replace ht := ht.below hB1 ht.lt  ;replace hr := hr.below hB1 hr.lt  ;replace hB := hB.trans (hB1.mono hB.size)  ;clear hB1  ;obtain ⟨tc0, tc1, tc2, tc3, tc4, tc5, tc6, tc7, tc8⟩ := tel_cells ht  ;obtain ⟨rc0, rc1, rc2⟩ := rig_cells hr
  go_wp2_with fail  ;go_ret  ;refine ⟨ret_bool ?_, hB⟩  ;rw [← HR.out]  ;first | rfl | (simp; done) | (simp; omega) | (rw [Bool.eq_iff_iff]; simp; omega)

set_option maxHeartbeats 2000000 in
set_option maxRecDepth 100000 in
theorem rturn_any (t : Tel) (a b : Int) (w : World) (hs : t.id.size ≤ 20000) : Calls Tryd.prog 12 #[telV t, .int .i64 a, .int .i64 b] w fun e w' => e = .returned (.tuple #[.int .i64 (tV t a b), .int .i64 (tE t a b)]) ∧ Below w.heap.size w w' := by
  have HT := hid (fun w => rtele_any t w hs)
  have hf := fun h => teleB_filters (t := t) h
  have HW1 := hid (fun w => rfilter_any t a w)
  have HW2 := hid (fun w => rfilter_any t b w)
  have h1 := fun h => flB_bd' (t := t) (a := a) h
  have h2 := fun h => flB_bd' (t := t) (a := b) h
  unfold tV tE turnB turnV
  generalize teleB t = B1 at *
  generalize flB t a = B2 at *
  generalize flB t b = B3 at *
  clear hs
  have H1 := hid h1
  have H2 := hid h2
  have HFI := hid hf
  clear h1 h2 hf
  obtain ⟨V, E, HX⟩ : ∃ V E, Hid ((if (B1 && B2 && B3) = true then 2 * min (max (a - b) (b - a)) (t.filters - max (a - b) (b - a)) else 0) = V ∧ (if (B1 && B2 && B3) = true then (0 : Int) else 1) = E) := ⟨_, _, hid ⟨rfl, rfl⟩⟩
  rw [HX.out.1, HX.out.2]
  rw [telV_eq] at *
  go_enter Tryd.func12, Tryd.ntmps12
  go_wp2_with fail
  obtain ⟨w0, hw0, ht, hB⟩ := tel_world t w
  rw [hw0]
  clear hw0
  refine (HT.out _).mono ?_
  rintro e w' ⟨rfl, hB1⟩  ;replace ht := ht.below hB1 ht.lt  ;replace hB := hB.trans (hB1.mono hB.size)  ;clear hB1  ;obtain ⟨tc0, tc1, tc2, tc3, tc4, tc5, tc6, tc7, tc8⟩ := tel_cells ht
  cases B1
  · go_wp2_with fail  ;go_ret2  ;obtain ⟨e1, e2⟩ := HX.out  ;rw [if_neg (by simp)] at e1 e2  ;rw [← e1, ← e2]  ;exact ⟨rfl, hB⟩
  go_wp2_with fail
  clear tc0 tc1 tc2 tc3 tc4 tc5 tc6 tc7 tc8
  refine (HW1.out _).mono ?_
  rintro e w' ⟨rfl, hB1⟩  ;replace ht := ht.below hB1 ht.lt  ;replace hB := hB.trans (hB1.mono hB.size)  ;clear hB1  ;obtain ⟨tc0, tc1, tc2, tc3, tc4, tc5, tc6, tc7, tc8⟩ := tel_cells ht
  cases B2
  · go_wp2_with fail  ;go_ret2  ;obtain ⟨e1, e2⟩ := HX.out  ;rw [if_neg (by simp)] at e1 e2  ;rw [← e1, ← e2]  ;exact ⟨rfl, hB⟩
  go_wp2_with fail
  clear tc0 tc1 tc2 tc3 tc4 tc5 tc6 tc7 tc8
  refine (HW2.out _).mono ?_
  rintro e w' ⟨rfl, hB1⟩  ;replace ht := ht.below hB1 ht.lt  ;replace hB := hB.trans (hB1.mono hB.size)  ;clear hB1  ;obtain ⟨tc0, tc1, tc2, tc3, tc4, tc5, tc6, tc7, tc8⟩ := tel_cells ht
  cases B3
  · go_wp2_with fail  ;go_ret2  ;obtain ⟨e1, e2⟩ := HX.out  ;rw [if_neg (by simp)] at e1 e2  ;rw [← e1, ← e2]  ;exact ⟨rfl, hB⟩
  obtain ⟨f1, f2⟩ := HFI.out (by first | rfl | trivial)
  obtain ⟨a1, a2⟩ := H1.out (by first | rfl | trivial)
  obtain ⟨b1, b2⟩ := H2.out (by first | rfl | trivial)
  clear H1 H2 HFI
  by_cases hab : a < b
  · go_wp2_with fail
    go_ret2
    obtain ⟨e1, e2⟩ := HX.out
    rw [if_pos (show (true && true && true) = true from rfl)] at e1 e2
    have e3 : 2 * min (-(a - b)) (t.filters + (a - b)) = V := by omega
    refine ⟨?_, hB⟩
    rw [← e3, ← e2]
    rfl
  · go_wp2_with fail
    go_ret2
    obtain ⟨e1, e2⟩ := HX.out
    rw [if_pos (show (true && true && true) = true from rfl)] at e1 e2
    have e3 : 2 * min (a - b) (t.filters - (a - b)) = V := by omega
    refine ⟨?_, hB⟩
    rw [← e3, ← e2]
    rfl
end Go.Proofs.YthnkahilaampmaaDoor
