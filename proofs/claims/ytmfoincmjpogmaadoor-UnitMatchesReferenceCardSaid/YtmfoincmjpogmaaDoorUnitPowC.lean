/- unit: Power, one of three cases -/
import Derived.Test.YtmfoincmjpogmaaDoorUnitPow
namespace Go.Proofs.YtmfoincmjpogmaaDoor
open Go.RowKit

set_option maxHeartbeats 4000000 in
set_option maxRecDepth 100000 in
theorem power_c (uc : Int) (hz : ¬ uc = 0) (n : Int) (w : World) (h1 : vB ⟨0, 0, uc⟩ = true) : Calls Tryd.prog 11 #[.agg #[.int .i64 0, .int .i64 0, .int .i64 uc], .int .i64 n] w fun e w' => e = .returned (.tuple #[uV (if vB (sclU ⟨0, 0, uc⟩ (clampN n)) = true then sclU ⟨0, 0, uc⟩ (clampN n) else u0), .int .i64 (if vB (sclU ⟨0, 0, uc⟩ (clampN n)) = true then 0 else 9)]) ∧ Below w.heap.size w w' := by
  have hv := fun w => valid_any ⟨0, 0, uc⟩ w
  have HE := hid (fun w => exps_any ⟨0, 0, uc⟩ w)
  have hO := fun w => of_any (sclU ⟨0, 0, uc⟩ (clampN n)) w
  obtain ⟨X, hX⟩ : ∃ X, (if vB (sclU ⟨0, 0, uc⟩ (clampN n)) = true then (sclU ⟨0, 0, uc⟩ (clampN n)) else u0) = X := ⟨_, rfl⟩
  rw [hX] at hO ⊢
  obtain ⟨B, h3⟩ : ∃ B, vB (sclU ⟨0, 0, uc⟩ (clampN n)) = B := ⟨_, rfl⟩
  rw [h3] at hO ⊢
  obtain ⟨E, hE⟩ : ∃ E : Int, (if B = true then 0 else 9) = E := ⟨_, rfl⟩
  rw [hE]
  have hA : uV (sclU ⟨0, 0, uc⟩ (clampN n)) = .agg #[.int .i64 (0), .int .i64 (0), .int .i64 (uc * clampN n)] := by simp [uV, sclU]
  rw [hA] at hO
  have HX := hid hX
  have H3 := hid h3
  have hcl : clampN n = max (-9) (min 9 n) := rfl
  have hc1 : -9 ≤ clampN n := by omega
  have hc2 : clampN n ≤ 9 := by omega
  generalize clampN n = c at *
  have HO := hid hO
  have HCL := hid hcl
  have HEE := hid hE
  rw [h1] at hv
  have HV := hid hv
  obtain ⟨⟨u1, u2⟩, ⟨u3, u4⟩, u5, u6⟩ := (vB_iff _).1 h1
  dsimp only at u1 u2 u3 u4 u5 u6
  obtain ⟨q1, q2⟩ := mul_bd u1 u2 hc1 hc2
  obtain ⟨q3, q4⟩ := mul_bd u3 u4 hc1 hc2
  obtain ⟨q5, q6⟩ := mul_bd u5 u6 hc1 hc2
  clear hO hA hX h3 hcl hE hv
  unfold uV at *
  dsimp only at HV HE
  by_cases n1 : 9 ≤ n
  · have HCV := hid (show c = 9 by have := HCL.out; omega)
    go_enter Tryd.func11, Tryd.ntmps11  ;go_wp2_with fail  ;obtain ⟨w0, hw0, hu, hz, hB⟩ := unit1_worlds ⟨0, 0, uc⟩ w  ;(try dsimp only at hu hw0)  ;rw [hw0]  ;clear hw0  ;generalize hg1 : w.heap.size + 1 = b2 at *  ;have HB := hid (show b2 = w.heap.size + 1 from hg1.symm)  ;have hwb2 : w.heap.size ≤ b2 := (by omega)  ;clear hg1  ;refine (HV.out _).mono ?_  ;rintro e w' ⟨rfl, hB1⟩  ;replace hu := hu.below hB1 hu.lt  ;replace hz := hz.below hB1 hz.lt  ;replace hB := hB.trans (hB1.mono hB.size)  ;clear hB1  ;have uc0 := hu.cell 0  ;have uc1 := hu.cell 1  ;have uc2 := hu.cell 2  ;simp only [uCells, List.getElem?_cons_succ, List.getElem?_cons_zero] at uc0 uc1 uc2  ;go_wp2_with fail  ;refine (HE.out _).mono ?_  ;rintro e w' ⟨rfl, hB1⟩  ;have hbn := (hz.below hB1 hz.lt).lt  ;replace hz := (hz.below hB1 hz.lt).alloc (Obj.cells #[.int .i64 0, .int .i64 0, .int .i64 uc] 40)  ;have hn := Blk.new w' #[.int .i64 0, .int .i64 0, .int .i64 uc] 40  ;replace hB := (hB.trans (hB1.mono hB.size)).alloc (by have := hB.size; have := hB1.size; omega) (Obj.cells #[.int .i64 0, .int .i64 0, .int .i64 uc] 40)  ;have hne : b2 ≠ w'.heap.size := (by omega)  ;have hwn : w.heap.size ≤ w'.heap.size := (by omega)  ;clear hB1 hu hbn uc0 uc1 uc2  ;go_wp2_with fail  ;generalize w'.heap.size = nb at *  ;rw [← HCV.out]  ;go_loopw [23] (fun s23 wr => Blk wr b2 23 [.int .i64 0, .int .i64 0, .int .i64 0] ∧ Below w.heap.size w wr ∧ ((s23 = .int .i64 0 ∧ Blk wr nb 40 [.int .i64 0, .int .i64 0, .int .i64 uc]) ∨ (s23 = .int .i64 1 ∧ Blk wr nb 40 [.int .i64 (0), .int .i64 0, .int .i64 uc]) ∨ (s23 = .int .i64 2 ∧ Blk wr nb 40 [.int .i64 (0), .int .i64 (0), .int .i64 uc]) ∨ (s23 = .int .i64 3 ∧ Blk wr nb 40 [.int .i64 (0), .int .i64 (0), .int .i64 (uc * c)]))) (fun s23 _ => 3 - (intOf s23).toNat)  ;(case atStart => exact ⟨hz, hB, .inl ⟨rfl, hn⟩⟩)
    case round =>
      clear hz hn hB  ;obtain ⟨hz, hB, ⟨rfl, hn⟩ | ⟨rfl, hn⟩ | ⟨rfl, hn⟩ | ⟨rfl, hn⟩⟩ := hrel
      · have c0 := hn.cell 0  ;have f0 := hn.free 0  ;simp only [List.getElem?_cons_zero] at c0  ;go_wp2_with fail  ;go_roundw  ;(case rel => exact ⟨hz.other ⟨nb, 0, none⟩ hne _, hB.setCell (p := ⟨nb, 0, none⟩) hwn _, .inr (.inl ⟨rfl, hn.set 0 _⟩)⟩)  ;(case measure => simp [intOf])
      · have c0 := hn.cell 1  ;have f0 := hn.free 1  ;simp only [List.getElem?_cons_succ, List.getElem?_cons_zero] at c0  ;go_wp2_with fail  ;go_roundw  ;(case rel => exact ⟨hz.other ⟨nb, 1, none⟩ hne _, hB.setCell (p := ⟨nb, 1, none⟩) hwn _, .inr (.inr (.inl ⟨rfl, hn.set 1 _⟩))⟩)  ;(case measure => simp [intOf])
      · have c0 := hn.cell 2  ;have f0 := hn.free 2  ;simp only [List.getElem?_cons_succ, List.getElem?_cons_zero] at c0  ;go_wp2_with fail  ;go_roundw  ;(case rel => exact ⟨hz.other ⟨nb, 2, none⟩ hne _, hB.setCell (p := ⟨nb, 2, none⟩) hwn _, .inr (.inr (.inr ⟨rfl, hn.set 2 _⟩))⟩)  ;(case measure => simp [intOf])
      · have c0 := hn.cell 0  ;have c1 := hn.cell 1  ;have c2 := hn.cell 2  ;simp only [List.getElem?_cons_succ, List.getElem?_cons_zero] at c0 c1 c2  ;go_wp2_with fail  ;refine (HO.out _).mono ?_  ;rintro e w6 ⟨rfl, hB1⟩  ;clear c0 c1 c2  ;replace hz := (hz.below hB1 hz.lt).alloc (Obj.cells #[.int .i64 X.a, .int .i64 X.b, .int .i64 X.c] 23)  ;have hk := Blk.new w6 #[.int .i64 X.a, .int .i64 X.b, .int .i64 X.c] 23  ;replace hB := (hB.trans (hB1.mono hB.size)).alloc (by have := hB.size; have := hB1.size; omega) (Obj.cells #[.int .i64 X.a, .int .i64 X.b, .int .i64 X.c] 23)  ;clear hB1 hn  ;have c0 := hk.cell 0  ;have c1 := hk.cell 1  ;have c2 := hk.cell 2  ;simp only [List.getElem?_cons_succ, List.getElem?_cons_zero] at c0 c1 c2  ;cases B
        · go_wp2_with (refine wpList_store_row rfl 23 _ _ rfl b2 _ rfl rfl 23 _ hz (by kernel_rfl) rfl (by simp [Value.oneCell']) ?_)  ;(try simp only [Exit.inBlock, Exit.then]); refine bodyPost_ret (results_row2 rfl _ _ b2 23 _ _ rfl (setRow_heap _ _ _ _ _ _ hz) Tryd.underlying23 rfl (by kernel_rfl)) rfl ?_
          have hx := HX.out  ;rw [H3.out, if_neg (by simp)] at hx  ;subst hx  ;rw [← HEE.out]  ;exact ⟨rfl, below_setRow hB hwb2 _⟩
        · go_wp2_with (refine wpList_store_row rfl 23 _ _ rfl b2 _ rfl rfl 23 _ hz (by kernel_rfl) rfl (by simp [Value.oneCell']) ?_)  ;(try simp only [Exit.inBlock, Exit.then]); refine bodyPost_ret (results_row2 rfl _ _ b2 23 _ _ rfl (setRow_heap _ _ _ _ _ _ hz) Tryd.underlying23 rfl (by kernel_rfl)) rfl ?_
          rw [← HEE.out]  ;exact ⟨rfl, below_setRow hB hwb2 _⟩
  by_cases n2 : n ≤ -9
  · have HCV := hid (show c = -9 by have := HCL.out; omega)
    go_enter Tryd.func11, Tryd.ntmps11  ;go_wp2_with fail  ;obtain ⟨w0, hw0, hu, hz, hB⟩ := unit1_worlds ⟨0, 0, uc⟩ w  ;(try dsimp only at hu hw0)  ;rw [hw0]  ;clear hw0  ;generalize hg1 : w.heap.size + 1 = b2 at *  ;have HB := hid (show b2 = w.heap.size + 1 from hg1.symm)  ;have hwb2 : w.heap.size ≤ b2 := (by omega)  ;clear hg1  ;refine (HV.out _).mono ?_  ;rintro e w' ⟨rfl, hB1⟩  ;replace hu := hu.below hB1 hu.lt  ;replace hz := hz.below hB1 hz.lt  ;replace hB := hB.trans (hB1.mono hB.size)  ;clear hB1  ;have uc0 := hu.cell 0  ;have uc1 := hu.cell 1  ;have uc2 := hu.cell 2  ;simp only [uCells, List.getElem?_cons_succ, List.getElem?_cons_zero] at uc0 uc1 uc2  ;go_wp2_with fail  ;refine (HE.out _).mono ?_  ;rintro e w' ⟨rfl, hB1⟩  ;have hbn := (hz.below hB1 hz.lt).lt  ;replace hz := (hz.below hB1 hz.lt).alloc (Obj.cells #[.int .i64 0, .int .i64 0, .int .i64 uc] 40)  ;have hn := Blk.new w' #[.int .i64 0, .int .i64 0, .int .i64 uc] 40  ;replace hB := (hB.trans (hB1.mono hB.size)).alloc (by have := hB.size; have := hB1.size; omega) (Obj.cells #[.int .i64 0, .int .i64 0, .int .i64 uc] 40)  ;have hne : b2 ≠ w'.heap.size := (by omega)  ;have hwn : w.heap.size ≤ w'.heap.size := (by omega)  ;clear hB1 hu hbn uc0 uc1 uc2  ;go_wp2_with fail  ;generalize w'.heap.size = nb at *  ;rw [← HCV.out]  ;go_loopw [23] (fun s23 wr => Blk wr b2 23 [.int .i64 0, .int .i64 0, .int .i64 0] ∧ Below w.heap.size w wr ∧ ((s23 = .int .i64 0 ∧ Blk wr nb 40 [.int .i64 0, .int .i64 0, .int .i64 uc]) ∨ (s23 = .int .i64 1 ∧ Blk wr nb 40 [.int .i64 (0), .int .i64 0, .int .i64 uc]) ∨ (s23 = .int .i64 2 ∧ Blk wr nb 40 [.int .i64 (0), .int .i64 (0), .int .i64 uc]) ∨ (s23 = .int .i64 3 ∧ Blk wr nb 40 [.int .i64 (0), .int .i64 (0), .int .i64 (uc * c)]))) (fun s23 _ => 3 - (intOf s23).toNat)  ;(case atStart => exact ⟨hz, hB, .inl ⟨rfl, hn⟩⟩)
    case round =>
      clear hz hn hB  ;obtain ⟨hz, hB, ⟨rfl, hn⟩ | ⟨rfl, hn⟩ | ⟨rfl, hn⟩ | ⟨rfl, hn⟩⟩ := hrel
      · have c0 := hn.cell 0  ;have f0 := hn.free 0  ;simp only [List.getElem?_cons_zero] at c0  ;go_wp2_with fail  ;go_roundw  ;(case rel => exact ⟨hz.other ⟨nb, 0, none⟩ hne _, hB.setCell (p := ⟨nb, 0, none⟩) hwn _, .inr (.inl ⟨rfl, hn.set 0 _⟩)⟩)  ;(case measure => simp [intOf])
      · have c0 := hn.cell 1  ;have f0 := hn.free 1  ;simp only [List.getElem?_cons_succ, List.getElem?_cons_zero] at c0  ;go_wp2_with fail  ;go_roundw  ;(case rel => exact ⟨hz.other ⟨nb, 1, none⟩ hne _, hB.setCell (p := ⟨nb, 1, none⟩) hwn _, .inr (.inr (.inl ⟨rfl, hn.set 1 _⟩))⟩)  ;(case measure => simp [intOf])
      · have c0 := hn.cell 2  ;have f0 := hn.free 2  ;simp only [List.getElem?_cons_succ, List.getElem?_cons_zero] at c0  ;go_wp2_with fail  ;go_roundw  ;(case rel => exact ⟨hz.other ⟨nb, 2, none⟩ hne _, hB.setCell (p := ⟨nb, 2, none⟩) hwn _, .inr (.inr (.inr ⟨rfl, hn.set 2 _⟩))⟩)  ;(case measure => simp [intOf])
      · have c0 := hn.cell 0  ;have c1 := hn.cell 1  ;have c2 := hn.cell 2  ;simp only [List.getElem?_cons_succ, List.getElem?_cons_zero] at c0 c1 c2  ;go_wp2_with fail  ;refine (HO.out _).mono ?_  ;rintro e w6 ⟨rfl, hB1⟩  ;clear c0 c1 c2  ;replace hz := (hz.below hB1 hz.lt).alloc (Obj.cells #[.int .i64 X.a, .int .i64 X.b, .int .i64 X.c] 23)  ;have hk := Blk.new w6 #[.int .i64 X.a, .int .i64 X.b, .int .i64 X.c] 23  ;replace hB := (hB.trans (hB1.mono hB.size)).alloc (by have := hB.size; have := hB1.size; omega) (Obj.cells #[.int .i64 X.a, .int .i64 X.b, .int .i64 X.c] 23)  ;clear hB1 hn  ;have c0 := hk.cell 0  ;have c1 := hk.cell 1  ;have c2 := hk.cell 2  ;simp only [List.getElem?_cons_succ, List.getElem?_cons_zero] at c0 c1 c2  ;cases B
        · go_wp2_with (refine wpList_store_row rfl 23 _ _ rfl b2 _ rfl rfl 23 _ hz (by kernel_rfl) rfl (by simp [Value.oneCell']) ?_)  ;(try simp only [Exit.inBlock, Exit.then]); refine bodyPost_ret (results_row2 rfl _ _ b2 23 _ _ rfl (setRow_heap _ _ _ _ _ _ hz) Tryd.underlying23 rfl (by kernel_rfl)) rfl ?_
          have hx := HX.out  ;rw [H3.out, if_neg (by simp)] at hx  ;subst hx  ;rw [← HEE.out]  ;exact ⟨rfl, below_setRow hB hwb2 _⟩
        · go_wp2_with (refine wpList_store_row rfl 23 _ _ rfl b2 _ rfl rfl 23 _ hz (by kernel_rfl) rfl (by simp [Value.oneCell']) ?_)  ;(try simp only [Exit.inBlock, Exit.then]); refine bodyPost_ret (results_row2 rfl _ _ b2 23 _ _ rfl (setRow_heap _ _ _ _ _ _ hz) Tryd.underlying23 rfl (by kernel_rfl)) rfl ?_
          rw [← HEE.out]  ;exact ⟨rfl, below_setRow hB hwb2 _⟩
  · have HCV := hid (show c = n by have := HCL.out; omega)
    go_enter Tryd.func11, Tryd.ntmps11  ;go_wp2_with fail  ;obtain ⟨w0, hw0, hu, hz, hB⟩ := unit1_worlds ⟨0, 0, uc⟩ w  ;(try dsimp only at hu hw0)  ;rw [hw0]  ;clear hw0  ;generalize hg1 : w.heap.size + 1 = b2 at *  ;have HB := hid (show b2 = w.heap.size + 1 from hg1.symm)  ;have hwb2 : w.heap.size ≤ b2 := (by omega)  ;clear hg1  ;refine (HV.out _).mono ?_  ;rintro e w' ⟨rfl, hB1⟩  ;replace hu := hu.below hB1 hu.lt  ;replace hz := hz.below hB1 hz.lt  ;replace hB := hB.trans (hB1.mono hB.size)  ;clear hB1  ;have uc0 := hu.cell 0  ;have uc1 := hu.cell 1  ;have uc2 := hu.cell 2  ;simp only [uCells, List.getElem?_cons_succ, List.getElem?_cons_zero] at uc0 uc1 uc2  ;go_wp2_with fail  ;refine (HE.out _).mono ?_  ;rintro e w' ⟨rfl, hB1⟩  ;have hbn := (hz.below hB1 hz.lt).lt  ;replace hz := (hz.below hB1 hz.lt).alloc (Obj.cells #[.int .i64 0, .int .i64 0, .int .i64 uc] 40)  ;have hn := Blk.new w' #[.int .i64 0, .int .i64 0, .int .i64 uc] 40  ;replace hB := (hB.trans (hB1.mono hB.size)).alloc (by have := hB.size; have := hB1.size; omega) (Obj.cells #[.int .i64 0, .int .i64 0, .int .i64 uc] 40)  ;have hne : b2 ≠ w'.heap.size := (by omega)  ;have hwn : w.heap.size ≤ w'.heap.size := (by omega)  ;clear hB1 hu hbn uc0 uc1 uc2  ;go_wp2_with fail  ;generalize w'.heap.size = nb at *  ;rw [← HCV.out]  ;go_loopw [23] (fun s23 wr => Blk wr b2 23 [.int .i64 0, .int .i64 0, .int .i64 0] ∧ Below w.heap.size w wr ∧ ((s23 = .int .i64 0 ∧ Blk wr nb 40 [.int .i64 0, .int .i64 0, .int .i64 uc]) ∨ (s23 = .int .i64 1 ∧ Blk wr nb 40 [.int .i64 (0), .int .i64 0, .int .i64 uc]) ∨ (s23 = .int .i64 2 ∧ Blk wr nb 40 [.int .i64 (0), .int .i64 (0), .int .i64 uc]) ∨ (s23 = .int .i64 3 ∧ Blk wr nb 40 [.int .i64 (0), .int .i64 (0), .int .i64 (uc * c)]))) (fun s23 _ => 3 - (intOf s23).toNat)  ;(case atStart => exact ⟨hz, hB, .inl ⟨rfl, hn⟩⟩)
    case round =>
      clear hz hn hB  ;obtain ⟨hz, hB, ⟨rfl, hn⟩ | ⟨rfl, hn⟩ | ⟨rfl, hn⟩ | ⟨rfl, hn⟩⟩ := hrel
      · have c0 := hn.cell 0  ;have f0 := hn.free 0  ;simp only [List.getElem?_cons_zero] at c0  ;go_wp2_with fail  ;go_roundw  ;(case rel => exact ⟨hz.other ⟨nb, 0, none⟩ hne _, hB.setCell (p := ⟨nb, 0, none⟩) hwn _, .inr (.inl ⟨rfl, hn.set 0 _⟩)⟩)  ;(case measure => simp [intOf])
      · have c0 := hn.cell 1  ;have f0 := hn.free 1  ;simp only [List.getElem?_cons_succ, List.getElem?_cons_zero] at c0  ;go_wp2_with fail  ;go_roundw  ;(case rel => exact ⟨hz.other ⟨nb, 1, none⟩ hne _, hB.setCell (p := ⟨nb, 1, none⟩) hwn _, .inr (.inr (.inl ⟨rfl, hn.set 1 _⟩))⟩)  ;(case measure => simp [intOf])
      · have c0 := hn.cell 2  ;have f0 := hn.free 2  ;simp only [List.getElem?_cons_succ, List.getElem?_cons_zero] at c0  ;go_wp2_with fail  ;go_roundw  ;(case rel => exact ⟨hz.other ⟨nb, 2, none⟩ hne _, hB.setCell (p := ⟨nb, 2, none⟩) hwn _, .inr (.inr (.inr ⟨rfl, hn.set 2 _⟩))⟩)  ;(case measure => simp [intOf])
      · have c0 := hn.cell 0  ;have c1 := hn.cell 1  ;have c2 := hn.cell 2  ;simp only [List.getElem?_cons_succ, List.getElem?_cons_zero] at c0 c1 c2  ;go_wp2_with fail  ;refine (HO.out _).mono ?_  ;rintro e w6 ⟨rfl, hB1⟩  ;clear c0 c1 c2  ;replace hz := (hz.below hB1 hz.lt).alloc (Obj.cells #[.int .i64 X.a, .int .i64 X.b, .int .i64 X.c] 23)  ;have hk := Blk.new w6 #[.int .i64 X.a, .int .i64 X.b, .int .i64 X.c] 23  ;replace hB := (hB.trans (hB1.mono hB.size)).alloc (by have := hB.size; have := hB1.size; omega) (Obj.cells #[.int .i64 X.a, .int .i64 X.b, .int .i64 X.c] 23)  ;clear hB1 hn  ;have c0 := hk.cell 0  ;have c1 := hk.cell 1  ;have c2 := hk.cell 2  ;simp only [List.getElem?_cons_succ, List.getElem?_cons_zero] at c0 c1 c2  ;cases B
        · go_wp2_with (refine wpList_store_row rfl 23 _ _ rfl b2 _ rfl rfl 23 _ hz (by kernel_rfl) rfl (by simp [Value.oneCell']) ?_)  ;(try simp only [Exit.inBlock, Exit.then]); refine bodyPost_ret (results_row2 rfl _ _ b2 23 _ _ rfl (setRow_heap _ _ _ _ _ _ hz) Tryd.underlying23 rfl (by kernel_rfl)) rfl ?_
          have hx := HX.out  ;rw [H3.out, if_neg (by simp)] at hx  ;subst hx  ;rw [← HEE.out]  ;exact ⟨rfl, below_setRow hB hwb2 _⟩
        · go_wp2_with (refine wpList_store_row rfl 23 _ _ rfl b2 _ rfl rfl 23 _ hz (by kernel_rfl) rfl (by simp [Value.oneCell']) ?_)  ;(try simp only [Exit.inBlock, Exit.then]); refine bodyPost_ret (results_row2 rfl _ _ b2 23 _ _ rfl (setRow_heap _ _ _ _ _ _ hz) Tryd.underlying23 rfl (by kernel_rfl)) rfl ?_
          rw [← HEE.out]  ;exact ⟨rfl, below_setRow hB hwb2 _⟩
end Go.Proofs.YtmfoincmjpogmaaDoor
