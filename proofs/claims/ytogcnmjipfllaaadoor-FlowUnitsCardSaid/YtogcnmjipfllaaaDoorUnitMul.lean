/- unit: valid, Mul, Power -/
import Derived.Test.YtogcnmjipfllaaaDoorUnitBase
namespace Go.Proofs.YtogcnmjipfllaaaDoor
open Go.RowKit

set_option maxHeartbeats 1000000 in
set_option maxRecDepth 100000 in
theorem valid_any (u : U) (w : World) : Calls Tryd.prog 20 #[uV u] w fun e w' => e = .returned (.bool (vB u)) ∧ Below w.heap.size w w' := by
  have HE := hid (fun w => exps_any u w)
  have HO := hid (fun w => of_any u w)
  generalize vB u = B at *
  have hX : ∃ X, (if B = true then u else u0) = X := ⟨_, rfl⟩
  obtain ⟨X, hX⟩ := hX
  rw [hX] at HO
  clear hX
  unfold uV at *
  go_enter Tryd.func20, Tryd.ntmps20
  go_wp2_with fail
  refine (HE.out _).mono ?_
  rintro e w1 ⟨rfl, hB0⟩
  have hB1 := unalloc hB0
  clear hB0
  go_wp2_with fail
  refine (HO.out _).mono ?_
  rintro e w2 ⟨rfl, hB2⟩
  have hB := hB1.trans (hB2.mono hB1.size)
  clear hB1 hB2
  go_wp2_with fail
  go_ret
  exact ⟨rfl, hB.alloc hB.size _⟩

def uCells (u : U) : List Value := [.int .i64 u.a, .int .i64 u.b, .int .i64 u.c]
theorem unit2_worlds (u v : U) (w : World) : ∃ w0 : World, (((w.alloc (.cells #[.int .i64 u.a, .int .i64 u.b, .int .i64 u.c] 34)).alloc (.cells #[.int .i64 v.a, .int .i64 v.b, .int .i64 v.c] 34)).alloc (.cells #[.int .i64 0, .int .i64 0, .int .i64 0] 34)) = w0 ∧ Blk w0 w.heap.size 34 (uCells u) ∧
    Blk w0 (w.heap.size + 1) 34 (uCells v) ∧ Blk w0 (w.heap.size + 1 + 1) 34 [.int .i64 0, .int .i64 0, .int .i64 0] ∧ Below w.heap.size w w0 := by
  refine ⟨_, rfl, ((Blk.new w _ _).alloc _).alloc _, ?_, ?_, (((Below.refl _ w).alloc (Nat.le_refl _) _).alloc (by simp) _).alloc (by simp <;> omega) _⟩
  · have := Blk.new (w.alloc (.cells #[.int .i64 u.a, .int .i64 u.b, .int .i64 u.c] 34)) #[.int .i64 v.a, .int .i64 v.b, .int .i64 v.c] 34
    rw [World.size_alloc] at this
    exact this.alloc _
  · have := Blk.new ((w.alloc (.cells #[.int .i64 u.a, .int .i64 u.b, .int .i64 u.c] 34)).alloc (.cells #[.int .i64 v.a, .int .i64 v.b, .int .i64 v.c] 34)) #[.int .i64 0, .int .i64 0, .int .i64 0] 34
    simp only [World.size_alloc] at this
    exact this

def addU (u v : U) : U := ⟨u.a + v.a, u.b + v.b, u.c + v.c⟩
def mulU (u v : U) : U := if (vB u && vB v && vB (addU u v)) = true then addU u v else u0
def mulE (u v : U) : Int := if (vB u && vB v) = true then (if vB (addU u v) = true then 0 else 9) else 1

set_option maxHeartbeats 1000000 in
set_option maxRecDepth 100000 in
theorem mul_any (u v : U) (w : World) : Calls Tryd.prog 10 #[uV u, uV v] w fun e w' => e = .returned (.tuple #[uV (mulU u v), .int .i64 (mulE u v)]) ∧ Below w.heap.size w w' := by
  have HV := hid (fun w => valid_any u w)
  have HV2 := hid (fun w => valid_any v w)
  have HE := hid (fun w => exps_any u w)
  have HE2 := hid (fun w => exps_any v w)
  have hO := fun w => of_any (addU u v) w
  obtain ⟨X, hX⟩ : ∃ X, (if vB (addU u v) = true then addU u v else u0) = X := ⟨_, rfl⟩
  rw [hX] at hO
  obtain ⟨B, h3⟩ : ∃ B, vB (addU u v) = B := ⟨_, rfl⟩
  rw [h3] at hO
  obtain ⟨Y, E, HF⟩ : ∃ Y E, Hid (mulU u v = Y ∧ mulE u v = E) := ⟨_, _, hid ⟨rfl, rfl⟩⟩
  rw [HF.out.1, HF.out.2]
  have hA : uV (addU u v) = .agg #[.int .i64 (u.a + v.a), .int .i64 (u.b + v.b), .int .i64 (u.c + v.c)] := rfl
  rw [hA] at hO
  have HO := hid hO
  have H3 := hid h3
  have HX := hid hX
  clear hO hA h3 hX
  unfold uV at *
  go_enter Tryd.func10, Tryd.ntmps10
  go_wp2_with fail
  obtain ⟨w0, hw0, hu, hv, hz, hB⟩ := unit2_worlds u v w
  rw [hw0]
  clear hw0
  generalize hg1 : w.heap.size + 1 = b1 at *
  generalize hg2 : b1 + 1 = b2 at *
  have HB := hid (show b1 = w.heap.size + 1 ∧ b2 = b1 + 1 from ⟨hg1.symm, hg2.symm⟩)
  have hwb2 : w.heap.size ≤ b2 := (by omega)
  clear hg1 hg2
  refine (HV.out _).mono ?_
  rintro e w' ⟨rfl, hB1⟩  ;replace hu := hu.below hB1 hu.lt  ;replace hv := hv.below hB1 hv.lt  ;replace hz := hz.below hB1 hz.lt  ;replace hB := hB.trans (hB1.mono hB.size)  ;clear hB1  ;have uc0 := hu.cell 0  ;have uc1 := hu.cell 1  ;have uc2 := hu.cell 2  ;have vc0 := hv.cell 0  ;have vc1 := hv.cell 1  ;have vc2 := hv.cell 2  ;simp only [uCells, List.getElem?_cons_succ, List.getElem?_cons_zero] at uc0 uc1 uc2 vc0 vc1 vc2
  cases h1 : vB u
  · go_wp2_with (refine wpList_store_row rfl 34 _ _ rfl b2 _ rfl rfl 34 _ hz (by kernel_rfl) rfl (by simp [Value.oneCell']) ?_)  ;(try simp only [Exit.inBlock, Exit.then]); refine bodyPost_ret (results_row2 rfl _ _ b2 34 _ _ rfl (setRow_heap _ _ _ _ _ _ hz) Tryd.underlying34 rfl (by kernel_rfl)) rfl ?_
    obtain ⟨rfl, rfl⟩ : u0 = Y ∧ 1 = E := (by have hf := HF.out; unfold mulU mulE at hf; simpa [*] using hf)  ;exact ⟨rfl, below_setRow hB hwb2 _⟩
  go_wp2_with fail
  clear uc0 uc1 uc2 vc0 vc1 vc2
  refine (HV2.out _).mono ?_
  rintro e w' ⟨rfl, hB1⟩  ;replace hu := hu.below hB1 hu.lt  ;replace hv := hv.below hB1 hv.lt  ;replace hz := hz.below hB1 hz.lt  ;replace hB := hB.trans (hB1.mono hB.size)  ;clear hB1  ;have uc0 := hu.cell 0  ;have uc1 := hu.cell 1  ;have uc2 := hu.cell 2  ;have vc0 := hv.cell 0  ;have vc1 := hv.cell 1  ;have vc2 := hv.cell 2  ;simp only [uCells, List.getElem?_cons_succ, List.getElem?_cons_zero] at uc0 uc1 uc2 vc0 vc1 vc2
  cases h2 : vB v
  · go_wp2_with (refine wpList_store_row rfl 34 _ _ rfl b2 _ rfl rfl 34 _ hz (by kernel_rfl) rfl (by simp [Value.oneCell']) ?_)  ;(try simp only [Exit.inBlock, Exit.then]); refine bodyPost_ret (results_row2 rfl _ _ b2 34 _ _ rfl (setRow_heap _ _ _ _ _ _ hz) Tryd.underlying34 rfl (by kernel_rfl)) rfl ?_
    obtain ⟨rfl, rfl⟩ : u0 = Y ∧ 1 = E := (by have hf := HF.out; unfold mulU mulE at hf; simpa [*] using hf)  ;exact ⟨rfl, below_setRow hB hwb2 _⟩
  go_wp2_with fail
  clear uc0 uc1 uc2 vc0 vc1 vc2
  refine (HE.out _).mono ?_
  rintro e w' ⟨rfl, hB1⟩
  have hbn := (hz.below hB1 hz.lt).lt
  replace hv := (hv.below hB1 hv.lt).alloc (Obj.cells #[.int .i64 u.a, .int .i64 u.b, .int .i64 u.c] 58)
  replace hz := (hz.below hB1 hz.lt).alloc (Obj.cells #[.int .i64 u.a, .int .i64 u.b, .int .i64 u.c] 58)
  have hn := Blk.new w' #[.int .i64 u.a, .int .i64 u.b, .int .i64 u.c] 58
  replace hB := (hB.trans (hB1.mono hB.size)).alloc (by have := hB.size; have := hB1.size; omega) (Obj.cells #[.int .i64 u.a, .int .i64 u.b, .int .i64 u.c] 58)
  clear hB1 hu
  have vc0 := hv.cell 0
  have vc1 := hv.cell 1
  have vc2 := hv.cell 2
  simp only [uCells, List.getElem?_cons_succ, List.getElem?_cons_zero] at vc0 vc1 vc2
  go_wp2_with fail
  clear vc0 vc1 vc2
  refine (HE2.out _).mono ?_
  generalize w'.heap.size = nb at *
  rintro e w5 ⟨rfl, hB1⟩
  replace hz := hz.below hB1 hz.lt
  replace hn := hn.below hB1 hn.lt
  replace hB := hB.trans (hB1.mono hB.size)
  clear hB1 hv
  have hne : b2 ≠ nb := by omega
  have hwn : w.heap.size ≤ nb := by omega
  clear hbn
  go_wp2_with fail
  obtain ⟨⟨u1, u2⟩, ⟨u3, u4⟩, u5, u6⟩ := (vB_iff u).1 h1
  obtain ⟨⟨v1, v2⟩, ⟨v3, v4⟩, v5, v6⟩ := (vB_iff v).1 h2
  have hx0 := idx30 (.int .i64 v.a) (.int .i64 v.b) (.int .i64 v.c)
  have hx1 := idx31 (.int .i64 v.a) (.int .i64 v.b) (.int .i64 v.c)
  have hx2 := idx32 (.int .i64 v.a) (.int .i64 v.b) (.int .i64 v.c)
  go_loopw [24] (fun s24 wr => Blk wr b2 34 [.int .i64 0, .int .i64 0, .int .i64 0] ∧ Below w.heap.size w wr ∧ ((s24 = .int .i64 0 ∧ Blk wr nb 58 [.int .i64 u.a, .int .i64 u.b, .int .i64 u.c]) ∨ (s24 = .int .i64 1 ∧ Blk wr nb 58 [.int .i64 (u.a + v.a), .int .i64 u.b, .int .i64 u.c]) ∨ (s24 = .int .i64 2 ∧ Blk wr nb 58 [.int .i64 (u.a + v.a), .int .i64 (u.b + v.b), .int .i64 u.c]) ∨ (s24 = .int .i64 3 ∧ Blk wr nb 58 [.int .i64 (u.a + v.a), .int .i64 (u.b + v.b), .int .i64 (u.c + v.c)]))) (fun s24 _ => 3 - (intOf s24).toNat)
  case atStart => exact ⟨hz, hB, .inl ⟨rfl, hn⟩⟩
  case round =>
    clear hz hn hB
    obtain ⟨hz, hB, ⟨rfl, hn⟩ | ⟨rfl, hn⟩ | ⟨rfl, hn⟩ | ⟨rfl, hn⟩⟩ := hrel
    · have c0 := hn.cell 0
      have f0 := hn.free 0
      simp only [List.getElem?_cons_succ, List.getElem?_cons_zero] at c0
      go_wp2_with fail
      go_roundw
      case rel => exact ⟨hz.other ⟨nb, 0, none⟩ hne _, hB.setCell (p := ⟨nb, 0, none⟩) hwn _, .inr (.inl ⟨rfl, hn.set 0 _⟩)⟩
      case measure => simp [intOf]
    · have c0 := hn.cell 1
      have f0 := hn.free 1
      simp only [List.getElem?_cons_succ, List.getElem?_cons_zero] at c0
      go_wp2_with fail
      go_roundw
      case rel => exact ⟨hz.other ⟨nb, 1, none⟩ hne _, hB.setCell (p := ⟨nb, 1, none⟩) hwn _, .inr (.inr (.inl ⟨rfl, hn.set 1 _⟩))⟩
      case measure => simp [intOf]
    · have c0 := hn.cell 2
      have f0 := hn.free 2
      simp only [List.getElem?_cons_succ, List.getElem?_cons_zero] at c0
      go_wp2_with fail
      go_roundw
      case rel => exact ⟨hz.other ⟨nb, 2, none⟩ hne _, hB.setCell (p := ⟨nb, 2, none⟩) hwn _, .inr (.inr (.inr ⟨rfl, hn.set 2 _⟩))⟩
      case measure => simp [intOf]
    · have c0 := hn.cell 0
      have c1 := hn.cell 1
      have c2 := hn.cell 2
      simp only [List.getElem?_cons_succ, List.getElem?_cons_zero] at c0 c1 c2
      go_wp2_with fail
      refine (HO.out _).mono ?_
      rintro e w6 ⟨rfl, hB1⟩
      clear c0 c1 c2
      replace hz := (hz.below hB1 hz.lt).alloc (Obj.cells #[.int .i64 X.a, .int .i64 X.b, .int .i64 X.c] 34)
      have hk := Blk.new w6 #[.int .i64 X.a, .int .i64 X.b, .int .i64 X.c] 34
      replace hB := (hB.trans (hB1.mono hB.size)).alloc (by have := hB.size; have := hB1.size; omega) (Obj.cells #[.int .i64 X.a, .int .i64 X.b, .int .i64 X.c] 34)
      clear hB1 hn
      have c0 := hk.cell 0
      have c1 := hk.cell 1
      have c2 := hk.cell 2
      simp only [List.getElem?_cons_succ, List.getElem?_cons_zero] at c0 c1 c2
      cases B
      · have h3 := hid H3.out
        go_wp2_with (refine wpList_store_row rfl 34 _ _ rfl b2 _ rfl rfl 34 _ hz (by kernel_rfl) rfl (by simp [Value.oneCell']) ?_)  ;(try simp only [Exit.inBlock, Exit.then]); refine bodyPost_ret (results_row2 rfl _ _ b2 34 _ _ rfl (setRow_heap _ _ _ _ _ _ hz) Tryd.underlying34 rfl (by kernel_rfl)) rfl ?_
        have hf := HF.out  ;unfold mulU mulE at hf  ;rw [h1, h2, h3.out] at hf  ;simp only [Bool.and_self, Bool.and_false, Bool.false_eq_true, if_false, if_true] at hf  ;obtain ⟨rfl, rfl⟩ := hf  ;exact ⟨rfl, below_setRow hB hwb2 _⟩
      · have h3 := hid H3.out
        go_wp2_with (refine wpList_store_row rfl 34 _ _ rfl b2 _ rfl rfl 34 _ hz (by kernel_rfl) rfl (by simp [Value.oneCell']) ?_)  ;(try simp only [Exit.inBlock, Exit.then]); refine bodyPost_ret (results_row2 rfl _ _ b2 34 _ _ rfl (setRow_heap _ _ _ _ _ _ hz) Tryd.underlying34 rfl (by kernel_rfl)) rfl ?_
        have hx := HX.out
        rw [h3.out, if_pos rfl] at hx
        subst hx
        have hf := HF.out  ;unfold mulU mulE at hf  ;rw [h1, h2, h3.out] at hf  ;simp only [Bool.and_self, Bool.and_false, Bool.false_eq_true, if_false, if_true] at hf  ;obtain ⟨rfl, rfl⟩ := hf  ;exact ⟨rfl, below_setRow hB hwb2 _⟩
end Go.Proofs.YtogcnmjipfllaaaDoor
