/- flow: the laws' head -/
import Derived.Test.YtogcnmjipfllaaaDoorFloUni2
import Derived.Test.YtogcnmjipfllaaaDoorFloEx
namespace Go.Proofs.YtogcnmjipfllaaaDoor
open Go.RowKit

def flV (f : Flw) (so : Option Addr) (sc : Nat) : Value := fV f so sc
theorem parse_is (s : ByteArray) (w : World) (hs : s.size ≤ 1000000) {F : Flw} {x n : Int} (h : parF s.data.toList = (F, x, n)) (h40 : F.steps.length ≤ 40) : Calls Tryd.prog 13 #[.string s] w fun e w' =>
    ∃ so sc, e = .returned (.tuple #[fV F so sc, .int .i64 x, .int .i64 n]) ∧ Stps w' so F.steps ∧ Below w.heap.size w w' := by
  refine (parse_any s w hs).mono ?_
  rintro e w' ⟨sv, rfl, hm⟩
  rw [h] at hm ⊢
  obtain ⟨so, sc, e1, hsl⟩ := own_rowZ hm.own (by simp only; unfold maxLen; omega)
  exact ⟨so, sc, by rw [e1]; rfl, hsl, hm.below⟩
theorem units_is (f : Flw) (so : Option Addr) (sc : Nat) (I : List U) (io : Option Addr) (il ic : Nat) (w : World) (hS : Stps w so f.steps) (hI : I.length = 4 → Uns w io I) (hil : I.length = il) (hs : f.name.size ≤ 1000000) {L : List U} {x : Int} (h : unitsF f I = (L, x)) (hL : L.length ≤ 40) :
    Calls Tryd.prog 8 #[fV f so sc, .slice io il ic] w fun e w' => ∃ ao cap, e = .returned (.tuple #[.slice ao L.length cap, .int .i64 x]) ∧ Uns w' ao L ∧ Below w.heap.size w w' := by
  subst hil
  refine (funits_any f so sc I io ic w hS hI hs).mono ?_
  rintro e w' ⟨v, n, rfl, hn, hm⟩
  rw [h] at hn hm ⊢
  simp only at hn
  subst hn
  obtain ⟨ao, cap, e1, hsl⟩ := own_rowZ hm.own (by unfold maxLen; omega)
  exact ⟨ao, cap, by rw [e1], hsl, hm.below⟩
theorem fails_is (s : ByteArray) (x n : Int) (w : World) (hs : s.size ≤ 1000000) (h : parF s.data.toList = (flw0, x, n)) :
    Calls Tryd.prog 17 #[.string s, .int .i64 x, .int .i64 n] w fun e w' => e = .returned (.bool true) ∧ Below w.heap.size w w' := by
  have HP := hid (fun w => parse_is s w hs h (by decide))
  go_enter Tryd.func17, Tryd.ntmps17
  go_wp2_with fail
  refine (HP.out _).mono ?_
  rintro e w1 ⟨so, sc, rfl, -, hB⟩
  simp only [fV, flw0, List.length_nil]
  go_wp2_with fail
  go_ret
  exact ⟨ret_bool (by first | rfl | simp), hB.alloc hB.size _⟩
theorem text_is (w : World) : Calls Tryd.prog 16 #[] w fun e w' => e = .returned (.string exText) ∧ w' = w := by
  go_enter Tryd.func16, Tryd.ntmps16
  go_wp2_with fail
  go_ret
  exact ⟨rfl, rfl⟩
theorem stp_eql (a b c d : Int) (w : World) : (binOp .eql 32 (.agg #[.int .i64 a, .int .i64 b, .int .i64 c, .int .i64 d]) (.agg #[.int .i64 a, .int .i64 b, .int .i64 c, .int .i64 d])).run Tryd.prog w = .ok (.bool true) w := by
  simp [go_sem]
theorem head_world (w : World) (v : Value) : ∃ W : World, (((w.alloc (.cells #[.string ⟨#[102, 97, 115, 116]⟩, .int .i64 2, v] 24)).alloc (.cells #[.int .i64 1, .int .i64 0, .int .i64 0] 34)).alloc (.cells #[.int .i64 0, .int .i64 0, .int .i64 1] 34)) = W ∧
    Blk W w.heap.size 24 [.string ⟨#[102, 97, 115, 116]⟩, .int .i64 2, v] ∧ Blk W (w.heap.size + 1) 34 [.int .i64 1, .int .i64 0, .int .i64 0] ∧ Blk W (w.heap.size + 1 + 1) 34 [.int .i64 0, .int .i64 0, .int .i64 1] ∧ Below w.heap.size w W ∧ W.heap.size = w.heap.size + 1 + 1 + 1 :=
  ⟨_, rfl, ((Blk.new w _ _).alloc _).alloc _, (blk_n _ _ _ _ (by simp)).alloc _, blk_n _ _ _ _ (by simp), ((below_alloc w _).alloc (by simp) _).alloc (by simp; omega) _, by simp⟩
theorem uns_new (u : World) (n : Nat) (a b c d : U) (h : u.heap.size = n) : Uns (u.alloc (.cells #[.int .i64 a.a, .int .i64 a.b, .int .i64 a.c, .int .i64 b.a, .int .i64 b.b, .int .i64 b.c, .int .i64 c.a, .int .i64 c.b, .int .i64 c.c, .int .i64 d.a, .int .i64 d.b, .int .i64 d.c] 34)) (some ⟨n, 0, none⟩) [a, b, c, d] := by
  subst h
  exact slv_made u _ _ (by simp)
set_option maxHeartbeats 4000000 in
set_option maxRecDepth 100000 in
theorem head_any (w : World) : Calls Tryd.prog 6 #[] w fun e w' => e = .returned (.bool true) ∧ Below w.heap.size w w' := by
  have HT := hid (fun w => text_is w)
  have HP := hid (fun w => parse_is exText w (by decide) ex_parse (by decide))
  have HF1 := hid (fun w => fails_is bad1T 9 18 w (by decide) bad1_parse)
  have HF2 := hid (fun w => fails_is bad2T 1 29 w (by decide) bad2_parse)
  have HF3 := hid (fun w => fails_is bad3T 7 15 w (by decide) bad3_parse)
  have HF4 := hid (fun w => fails_is bad4T 1 25 w (by decide) bad4_parse)
  go_enter Tryd.func6, Tryd.ntmps6
  go_wp2_with fail
  refine (HT.out _).mono ?_
  rintro e w1 ⟨rfl, rfl⟩
  go_wp2_with fail
  refine (HP.out _).mono ?_
  rintro e w2 ⟨so, sc, rfl, hS, hB⟩
  have HU := hid (fun (io : Option Addr) (w' : World) (hB : Below w2.heap.size w2 w') (hI : Uns w' io [⟨1, 0, 0⟩, ⟨1, 0, 0⟩, ⟨1, 0, 0⟩, ⟨1, 0, 0⟩]) => units_is exFlow so sc _ io 4 4 w' (SlV.below hS hB) (fun _ => hI) rfl (by decide) ex_units (by decide))
  have HU2 := hid (fun (io : Option Addr) (w' : World) (hB : Below w2.heap.size w2 w') (hI : Uns w' io [⟨1, 0, 0⟩, ⟨0, 0, 1⟩, ⟨1, 0, 0⟩, ⟨1, 0, 0⟩]) => units_is exFlow so sc _ io 4 4 w' (SlV.below hS hB) (fun _ => hI) rfl (by decide) ex_units2 (by decide))
  have HV := hid (fun (w' : World) (hB : Below w2.heap.size w2 w') => fvalid_any exFlow so sc w' (SlV.below hS hB) (by decide))
  have HV0 := hid (fun (w' : World) => fvalid_any flw0 none 0 w' ⟨by simp [flw0, stpsCells], by simp [flw0, stpsCells]⟩ (by decide))
  obtain ⟨sb, soff, rfl, hsbl, p0, p1, p2, p3⟩ := hS.at (i := 2) (s := ⟨3, 0, 1, 0⟩) rfl
  obtain ⟨sb', soff', hso', -, q0, q1, q2, q3⟩ := hS.at (i := 6) (s := ⟨8, 3, 5, 0⟩) rfl
  obtain ⟨rfl, rfl⟩ : sb = sb' ∧ soff = soff' := by cases hso'; exact ⟨rfl, rfl⟩
  clear hso'
  rw [ex_valid] at HV
  rw [no_valid] at HV0
  simp only [fV, exFlow, flw0, List.length_cons, List.length_nil, Nat.zero_add, Nat.reduceAdd] at HU HU2 HV HV0 p0 p1 p2 p3 q0 q1 q2 q3 ⊢
  go_wp2_with fail
  obtain ⟨W, hW, hf, hc, hs, hBW, hsz⟩ := head_world w2 (.slice (some ⟨sb, soff, none⟩) 7 sc)
  rw [hW]
  clear hW
  have hl1 := uns_new W _ ⟨1, 0, 0⟩ ⟨1, 0, 0⟩ ⟨1, 0, 0⟩ ⟨1, 0, 0⟩ hsz
  have hB1 := hBW.alloc hBW.size (.cells #[.int .i64 1, .int .i64 0, .int .i64 0, .int .i64 1, .int .i64 0, .int .i64 0, .int .i64 1, .int .i64 0, .int .i64 0, .int .i64 1, .int .i64 0, .int .i64 0] 34)
  have hf1 := hf.alloc (.cells #[.int .i64 1, .int .i64 0, .int .i64 0, .int .i64 1, .int .i64 0, .int .i64 0, .int .i64 1, .int .i64 0, .int .i64 0, .int .i64 1, .int .i64 0, .int .i64 0] 34)
  have hc1 := hc.alloc (.cells #[.int .i64 1, .int .i64 0, .int .i64 0, .int .i64 1, .int .i64 0, .int .i64 0, .int .i64 1, .int .i64 0, .int .i64 0, .int .i64 1, .int .i64 0, .int .i64 0] 34)
  have hs1 := hs.alloc (.cells #[.int .i64 1, .int .i64 0, .int .i64 0, .int .i64 1, .int .i64 0, .int .i64 0, .int .i64 1, .int .i64 0, .int .i64 0, .int .i64 1, .int .i64 0, .int .i64 0] 34)
  refine (HU.out _ _ hB1 hl1).mono ?_
  rintro e w5 ⟨uo, uc, rfl, hU, hB5⟩
  replace hf1 := hf1.below hB5 hf1.lt
  replace hc1 := hc1.below hB5 hc1.lt
  replace hs1 := hs1.below hB5 hs1.lt
  replace hB1 := hB1.trans (hB5.mono hB1.size)
  clear hf hc hs hBW hsz hl1 hB5
  generalize w2.heap.size + 1 + 1 = b5 at *
  generalize w2.heap.size + 1 = b4 at *
  have HB1 := hid hB1
  generalize hb1 : w2.heap.size = b1 at hf1 ⊢
  have a0 := hf1.cell 0
  have a1 := hf1.cell 1
  have a2 := hf1.cell 2
  have c0 := hc1.cell 0
  have c1 := hc1.cell 1
  have c2 := hc1.cell 2
  have s0 := hs1.cell 0
  have s1 := hs1.cell 1
  have s2 := hs1.cell 2
  simp only [List.getElem?_cons_zero, List.getElem?_cons_succ] at a0 a1 a2 c0 c1 c2 s0 s1 s2
  have HH := hid (And.intro hf1 (And.intro hc1 (And.intro hB1 hU)))
  have HBB := hid hb1
  clear hf1 hc1 hs1 hB1 hU hb1
  simp only [List.length_cons]
  go_wp2_with fail
  obtain ⟨hf1, hc1, hB1, hU⟩ := HH.out
  have hl2 := uns_new w5 _ ⟨1, 0, 0⟩ ⟨0, 0, 1⟩ ⟨1, 0, 0⟩ ⟨1, 0, 0⟩ rfl
  have hB2 := hB1.alloc hB1.size (.cells #[.int .i64 1, .int .i64 0, .int .i64 0, .int .i64 0, .int .i64 0, .int .i64 1, .int .i64 1, .int .i64 0, .int .i64 0, .int .i64 1, .int .i64 0, .int .i64 0] 34)
  refine (HU2.out _ _ hB2 hl2).mono ?_
  rintro e w6 ⟨ao, acap, rfl, -, hB6⟩
  have hB56 : Below w5.heap.size w5 w6 := (below_alloc w5 _).trans (hB6.mono (by simp))
  have hB26 := hB2.trans (hB6.mono hB2.size)
  have hf6 := hf1.below hB56 hf1.lt
  have hc6 := hc1.below hB56 hc1.lt
  have hU6 : Uns w6 uo _ := SlV.below hU hB56
  clear hf1 hc1 hB1 hU hl2 hB2 hB6 hB56 a0 a1 a2 c0 c1 c2 s0 s1 s2 HH HU HU2
  have a2 := hf6.cell 2
  have P0 := (hB26.cell (p := ⟨sb, soff + 2 * 4, none⟩) hsbl).trans p0
  have P1 := (hB26.cell (p := ⟨sb, soff + 2 * 4 + 1, none⟩) hsbl).trans p1
  have P2 := (hB26.cell (p := ⟨sb, soff + 2 * 4 + 2, none⟩) hsbl).trans p2
  have P3 := (hB26.cell (p := ⟨sb, soff + 2 * 4 + 3, none⟩) hsbl).trans p3
  have Q0 := (hB26.cell (p := ⟨sb, soff + 6 * 4, none⟩) hsbl).trans q0
  have Q1 := (hB26.cell (p := ⟨sb, soff + 6 * 4 + 1, none⟩) hsbl).trans q1
  have Q2 := (hB26.cell (p := ⟨sb, soff + 6 * 4 + 2, none⟩) hsbl).trans q2
  have Q3 := (hB26.cell (p := ⟨sb, soff + 6 * 4 + 3, none⟩) hsbl).trans q3
  simp only [Nat.reduceMul, List.getElem?_cons_zero, List.getElem?_cons_succ] at P0 P1 P2 P3 Q0 Q1 Q2 Q3 a2
  have hse := stp_eql
  have HB26 := hid hB26
  have HF6 := hid (And.intro hf6 (And.intro hc6 hU6))
  clear p0 p1 p2 p3 q0 q1 q2 q3 hB26 hf6 hc6 hU6
  simp only [List.length_nil]
  go_wp2_with fail
  obtain ⟨hf6, hc6, hU6⟩ := HF6.out
  obtain ⟨ub, uoff, rfl, hubl, u20, u21, u22⟩ := hU6.at (i := 2) (s := ⟨1, 0, 0⟩) rfl
  obtain ⟨ub3, uoff3, e3, hub3, u30, u31, u32⟩ := hU6.at (i := 3) (s := ⟨0, 0, 0⟩) rfl
  obtain ⟨ub4, uoff4, e4, hub4, u40, u41, u42⟩ := hU6.at (i := 4) (s := ⟨1, 0, 0⟩) rfl
  obtain ⟨ub6, uoff6, e6, hub6, u60, u61, u62⟩ := hU6.at (i := 6) (s := ⟨0, 0, 0⟩) rfl
  cases e3
  cases e4
  cases e6
  have c0 := hc6.cell 0
  have c1 := hc6.cell 1
  have c2 := hc6.cell 2
  simp only [Nat.reduceMul, List.getElem?_cons_zero, List.getElem?_cons_succ] at u20 u21 u22 u30 u31 u32 u40 u41 u42 u60 u61 u62 c0 c1 c2
  have k20 := cell_regrown u20
  have k21 := cell_regrown u21
  have k22 := cell_regrown u22
  have k30 := cell_regrown u30
  have k31 := cell_regrown u31
  have k32 := cell_regrown u32
  have k40 := cell_regrown u40
  have k41 := cell_regrown u41
  have k42 := cell_regrown u42
  have k60 := cell_regrown u60
  have k61 := cell_regrown u61
  have k62 := cell_regrown u62
  have kc0 := cell_regrown c0
  have kc1 := cell_regrown c1
  have kc2 := cell_regrown c2
  have hn1 : ∀ w', (binOp .neq 34 (.agg #[.int .i64 1, .int .i64 0, .int .i64 0]) (.agg #[.int .i64 1, .int .i64 0, .int .i64 0])).run Tryd.prog w' = .ok (.bool false) w' := fun w' => funit_neq ⟨1, 0, 0⟩ ⟨1, 0, 0⟩ w'
  have hn0 : ∀ w', (binOp .neq 34 (.agg #[.int .i64 0, .int .i64 0, .int .i64 0]) (.agg #[.int .i64 0, .int .i64 0, .int .i64 0])).run Tryd.prog w' = .ok (.bool false) w' := fun w' => funit_neq ⟨0, 0, 0⟩ ⟨0, 0, 0⟩ w'
  clear P0 P1 P2 P3 Q0 Q1 Q2 Q3 a2 hse u20 u21 u22 u30 u31 u32 u40 u41 u42 u60 u61 u62 c0 c1 c2 hub3 hub4 hub6 hubl hc6 hU6 HF6
  refine wp_region_quiet_below (by kernel_rfl) (by kernel_rfl) ?_
  repeat (first | go_big_quiet_step (fail) | quiet_step (fail))
  refine wpQuiet_nil ?_
  intro _ hw'
  obtain ⟨⟨dq, osq⟩, hw''⟩ := hw'
  subst hw''
  have hB8 := below_regrown w6 dq osq
  clear k20 k21 k22 k30 k31 k32 k40 k41 k42 k60 k61 k62 kc0 kc1 kc2 hn1 hn0
  generalize Go.Sort.grow (redrawn w6 dq) osq = w7 at *
  have hf7 := hf6.below hB8 hf6.lt
  have HB7 := hid (HB26.out.trans (hB8.mono HB26.out.size))
  clear hf6 hB8 HB26
  go_wp2_with fail
  refine (HF1.out _).mono ?_
  rintro e w8 ⟨rfl, hB8⟩
  replace hf7 := hf7.below hB8 hf7.lt
  replace HB7 := hid (HB7.out.trans (hB8.mono HB7.out.size))
  clear hB8
  go_wp2_with fail
  refine (HF2.out _).mono ?_
  rintro e w9 ⟨rfl, hB8⟩
  replace hf7 := hf7.below hB8 hf7.lt
  replace HB7 := hid (HB7.out.trans (hB8.mono HB7.out.size))
  clear hB8
  go_wp2_with fail
  refine (HF3.out _).mono ?_
  rintro e w10 ⟨rfl, hB8⟩
  replace hf7 := hf7.below hB8 hf7.lt
  replace HB7 := hid (HB7.out.trans (hB8.mono HB7.out.size))
  clear hB8
  go_wp2_with fail
  refine (HF4.out _).mono ?_
  rintro e w11 ⟨rfl, hB8⟩
  replace hf7 := hf7.below hB8 hf7.lt
  replace HB7 := hid (HB7.out.trans (hB8.mono HB7.out.size))
  clear hB8
  have a0 := hf7.cell 0
  have a1 := hf7.cell 1
  have a2 := hf7.cell 2
  simp only [List.getElem?_cons_zero, List.getElem?_cons_succ] at a0 a1 a2
  clear hf7
  go_wp2_with fail
  refine (HV.out _ HB7.out).mono ?_
  rintro e w12 ⟨rfl, hB8⟩
  replace HB7 := hid (HB7.out.trans (hB8.mono HB7.out.size))
  clear hB8 a0 a1 a2
  go_wp2_with fail
  refine (HV0.out _).mono ?_
  rintro e w13 ⟨rfl, hB8⟩
  replace HB7 := hid (HB7.out.trans (hB8.mono HB7.out.size))
  go_wp2_with fail
  go_ret
  exact ⟨ret_bool (by first | rfl | simp), hB.trans (HB7.out.mono hB.size)⟩
end Go.Proofs.YtogcnmjipfllaaaDoor
