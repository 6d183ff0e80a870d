/- rig: the statement RigTurns -/
import Derived.Test.YthnkahilaampmaaDoorRigHead
namespace Go.Proofs.YthnkahilaampmaaDoor
open Go.RowKit

theorem turn_lit {t : Tel} {a b v e : Int} (hs : t.id.size ≤ 1000000) (hv : tV t a b = v) (he : tE t a b = e) (w : World) : Calls Tryd.prog 11 #[telV t, .int .i64 a, .int .i64 b] w fun en w' =>
    en = .returned (.tuple #[.int .i64 v, .int .i64 e]) ∧ Below w.heap.size w w' := by
  subst hv he; exact turn_any t a b w hs

set_option maxHeartbeats 1000000 in
theorem few_any (t : Tel) (w : World) (hs : t.id.size ≤ maxLen) : Calls Tryd.prog 10 #[telV t] w fun e w' => e = .returned (.bool (decide (t.id.size ≤ 60))) ∧ Below w.heap.size w w' := by
  unfold telV
  unfold maxLen at hs
  by_cases h : t.id.size ≤ 60
  · have hI : (t.id.size : Int) ≤ 60 := by omega
    rw [decide_eq_true h]
    go_enter Tryd.func10, Tryd.ntmps10
    go_wp2_with fail
    go_ret
    exact ⟨ret_bool (by first | rfl | (simp [*]) | (simp; omega)), below_alloc _ _⟩
  · have hI : ¬ (t.id.size : Int) ≤ 60 := by omega
    rw [decide_eq_false h]
    go_enter Tryd.func10, Tryd.ntmps10
    go_wp2_with fail
    go_ret
    exact ⟨ret_bool (by first | rfl | (simp [*]) | (simp; omega)), below_alloc _ _⟩
theorem few_lit {t : Tel} {b : Bool} (hs : t.id.size ≤ maxLen) (h : decide (t.id.size ≤ 60) = b) (w : World) : Calls Tryd.prog 10 #[telV t] w fun e w' => e = .returned (.bool b) ∧ Below w.heap.size w w' := by
  subst h; exact few_any t w hs

theorem tel_cells {w : World} {b : Nat} {t : Tel} (h : Blk w b 25 (telCells t)) : w.cell? ⟨b, 0, none⟩ = some (.string t.id) ∧ w.cell? ⟨b, 1, none⟩ = some (.int .i64 t.site) ∧ w.cell? ⟨b, 2, none⟩ = some (.int .i64 t.speed) ∧
    w.cell? ⟨b, 3, none⟩ = some (.int .i64 t.filters) ∧ w.cell? ⟨b, 4, none⟩ = some (.int .i64 t.d1) ∧ w.cell? ⟨b, 5, none⟩ = some (.int .i64 t.d2) ∧ w.cell? ⟨b, 6, none⟩ = some (.int .i64 t.d3) ∧ w.cell? ⟨b, 7, none⟩ = some (.int .i64 t.d4) ∧ w.cell? ⟨b, 8, none⟩ = some (.int .i64 t.d5) :=
  ⟨h.cell 0, h.cell 1, h.cell 2, h.cell 3, h.cell 4, h.cell 5, h.cell 6, h.cell 7, h.cell 8⟩
theorem rig_cells {w : World} {b : Nat} {r : RigT} (h : Blk w b 27 [.int .i64 r.at_, .int .i64 r.filter, .bool r.stuck]) : w.cell? ⟨b, 0, none⟩ = some (.int .i64 r.at_) ∧ w.cell? ⟨b, 1, none⟩ = some (.int .i64 r.filter) ∧ w.cell? ⟨b, 2, none⟩ = some (.bool r.stuck) :=
  ⟨h.cell 0, h.cell 1, h.cell 2⟩
/-- the rows: fields alone, so that 'telV t' is written out once -/
theorem telV_eq (t : Tel) : telV t = .agg #[.string t.id, .int .i64 t.site, .int .i64 t.speed, .int .i64 t.filters, .int .i64 t.d1, .int .i64 t.d2, .int .i64 t.d3, .int .i64 t.d4, .int .i64 t.d5] := rfl
theorem rigV_eq (r : RigT) : rigV r = .agg #[.int .i64 r.at_, .int .i64 r.filter, .bool r.stuck] := rfl


theorem turnB_parts {t : Tel} {a b : Int} : turnB t a b = true ↔ teleB t = true ∧ flB t a = true ∧ flB t b = true := by
  simp [turnB, and_assoc]
theorem tE_bad {t : Tel} {a b : Int} (h : turnB t a b = false) : tE t a b = 1 ∧ tV t a b = 0 := by simp [tE, tV, h]
theorem tE_good {t : Tel} {a b : Int} (h : turnB t a b = true) : tE t a b = 0 ∧ tV t a b = turnV t a b := by simp [tE, tV, h]
theorem turnB_comm (t : Tel) (a b : Int) : turnB t b a = turnB t a b := by unfold turnB; cases teleB t <;> cases flB t a <;> cases flB t b <;> rfl
theorem turnV_comm (t : Tel) (a b : Int) : turnV t b a = turnV t a b := by unfold turnV; congr 1; omega
theorem flB_bd {t : Tel} {a : Int} (h : flB t a = true) : 0 ≤ a ∧ a ≤ t.filters - 1 := by unfold flB at h; simpa using h

set_option maxHeartbeats 4000000 in
set_option maxRecDepth 100000 in
theorem turns_walk (t : Tel) (a b c : Int) (w : World) (hs : t.id.size ≤ maxLen) : Calls Tryd.prog 4 #[telV t, .int .i64 a, .int .i64 b, .int .i64 c] w fun e w' => e = .returned (.bool true) ∧ Below w.heap.size w w' := by
  by_cases h60 : t.id.size ≤ 60
  · have HF := hid (fun w => few_lit (t := t) (b := true) hs (decide_eq_true h60) w)
    have hs' : t.id.size ≤ 1000000 := by omega
    cases h1 : turnB t a b with
    | false =>
      obtain ⟨e1, v1⟩ := tE_bad h1
      obtain ⟨e2, v2⟩ := tE_bad ((turnB_comm t a b).trans h1)
      have H1 := hid (fun w => turn_lit (t := t) hs' v1 e1 w)
      have H2 := hid (fun w => turn_lit (t := t) hs' v2 e2 w)
      have H3 := hid (fun w => turn_any t b c w hs')
      have H4 := hid (fun w => turn_any t a c w hs')
      generalize tV t b c = x3 at *
      generalize tE t b c = y3 at *
      generalize tV t a c = x4 at *
      generalize tE t a c = y4 at *
      clear e1 v1 e2 v2 h1 h60 hs' hs
      rw [telV_eq] at *
      skip  ;go_enter Tryd.func4, Tryd.ntmps4  ;go_wp2_with fail  ;obtain ⟨w0, hw0, ht, hB⟩ := tel_world t w  ;rw [hw0]  ;clear hw0  ;refine (head_any _).mono ?_  ;rintro e w' ⟨rfl, hB1⟩  ;replace ht := ht.below hB1 ht.lt  ;replace hB := hB.trans (hB1.mono hB.size)  ;clear hB1  ;obtain ⟨tc0, tc1, tc2, tc3, tc4, tc5, tc6, tc7, tc8⟩ := tel_cells ht  ;go_wp2_with fail  ;clear tc0 tc1 tc2 tc3 tc4 tc5 tc6 tc7 tc8  ;refine (HF.out _).mono ?_  ;rintro e w' ⟨rfl, hB1⟩  ;replace ht := ht.below hB1 ht.lt  ;replace hB := hB.trans (hB1.mono hB.size)  ;clear hB1  ;obtain ⟨tc0, tc1, tc2, tc3, tc4, tc5, tc6, tc7, tc8⟩ := tel_cells ht  ;go_wp2_with fail  ;clear tc0 tc1 tc2 tc3 tc4 tc5 tc6 tc7 tc8
      refine (H1.out _).mono ?_
      rintro e w' ⟨rfl, hB1⟩  ;replace ht := ht.below hB1 ht.lt  ;replace hB := hB.trans (hB1.mono hB.size)  ;clear hB1  ;obtain ⟨tc0, tc1, tc2, tc3, tc4, tc5, tc6, tc7, tc8⟩ := tel_cells ht  ;go_wp2_with fail  ;clear tc0 tc1 tc2 tc3 tc4 tc5 tc6 tc7 tc8
      refine (H2.out _).mono ?_
      rintro e w' ⟨rfl, hB1⟩  ;replace ht := ht.below hB1 ht.lt  ;replace hB := hB.trans (hB1.mono hB.size)  ;clear hB1  ;obtain ⟨tc0, tc1, tc2, tc3, tc4, tc5, tc6, tc7, tc8⟩ := tel_cells ht  ;go_wp2_with fail  ;clear tc0 tc1 tc2 tc3 tc4 tc5 tc6 tc7 tc8
      refine (H3.out _).mono ?_
      rintro e w' ⟨rfl, hB1⟩  ;replace ht := ht.below hB1 ht.lt  ;replace hB := hB.trans (hB1.mono hB.size)  ;clear hB1  ;obtain ⟨tc0, tc1, tc2, tc3, tc4, tc5, tc6, tc7, tc8⟩ := tel_cells ht  ;go_wp2_with fail  ;clear tc0 tc1 tc2 tc3 tc4 tc5 tc6 tc7 tc8
      refine (H4.out _).mono ?_
      rintro e w' ⟨rfl, hB1⟩  ;replace ht := ht.below hB1 ht.lt  ;replace hB := hB.trans (hB1.mono hB.size)  ;clear hB1  ;obtain ⟨tc0, tc1, tc2, tc3, tc4, tc5, tc6, tc7, tc8⟩ := tel_cells ht  ;go_wp2_with fail  ;clear tc0 tc1 tc2 tc3 tc4 tc5 tc6 tc7 tc8
      go_ret
      exact ⟨ret_bool (by first | rfl | simp), hB⟩
    | true =>
      obtain ⟨e1, v1⟩ := tE_good h1
      obtain ⟨e2, v2⟩ := tE_good ((turnB_comm t a b).trans h1)
      rw [turnV_comm] at v2
      have H1 := hid (fun w => turn_lit (t := t) hs' v1 e1 w)
      have H2 := hid (fun w => turn_lit (t := t) hs' v2 e2 w)
      obtain ⟨p1, p2, p3⟩ := turnB_parts.1 h1
      obtain ⟨a1, a2⟩ := flB_bd p2
      obtain ⟨b1, b2⟩ := flB_bd p3
      obtain ⟨f1, f2⟩ := teleB_filters p1
      cases h2 : turnB t b c with
      | false =>
        obtain ⟨e3, v3⟩ := tE_bad h2
        have H3 := hid (fun w => turn_lit (t := t) hs' v3 e3 w)
        have H4 := hid (fun w => turn_any t a c w hs')
        generalize tV t a c = x4 at *
        generalize tE t a c = y4 at *
        generalize turnV t a b = x1 at *
        clear e1 v1 e2 v2 h1 h60 hs' hs h2 e3 v3 p1 p2 p3
        rw [telV_eq] at *
        skip  ;go_enter Tryd.func4, Tryd.ntmps4  ;go_wp2_with fail  ;obtain ⟨w0, hw0, ht, hB⟩ := tel_world t w  ;rw [hw0]  ;clear hw0  ;refine (head_any _).mono ?_  ;rintro e w' ⟨rfl, hB1⟩  ;replace ht := ht.below hB1 ht.lt  ;replace hB := hB.trans (hB1.mono hB.size)  ;clear hB1  ;obtain ⟨tc0, tc1, tc2, tc3, tc4, tc5, tc6, tc7, tc8⟩ := tel_cells ht  ;go_wp2_with fail  ;clear tc0 tc1 tc2 tc3 tc4 tc5 tc6 tc7 tc8  ;refine (HF.out _).mono ?_  ;rintro e w' ⟨rfl, hB1⟩  ;replace ht := ht.below hB1 ht.lt  ;replace hB := hB.trans (hB1.mono hB.size)  ;clear hB1  ;obtain ⟨tc0, tc1, tc2, tc3, tc4, tc5, tc6, tc7, tc8⟩ := tel_cells ht  ;go_wp2_with fail  ;clear tc0 tc1 tc2 tc3 tc4 tc5 tc6 tc7 tc8
        refine (H1.out _).mono ?_
        rintro e w' ⟨rfl, hB1⟩  ;replace ht := ht.below hB1 ht.lt  ;replace hB := hB.trans (hB1.mono hB.size)  ;clear hB1  ;obtain ⟨tc0, tc1, tc2, tc3, tc4, tc5, tc6, tc7, tc8⟩ := tel_cells ht  ;go_wp2_with fail  ;clear tc0 tc1 tc2 tc3 tc4 tc5 tc6 tc7 tc8
        refine (H2.out _).mono ?_
        rintro e w' ⟨rfl, hB1⟩  ;replace ht := ht.below hB1 ht.lt  ;replace hB := hB.trans (hB1.mono hB.size)  ;clear hB1  ;obtain ⟨tc0, tc1, tc2, tc3, tc4, tc5, tc6, tc7, tc8⟩ := tel_cells ht  ;go_wp2_with fail  ;clear tc0 tc1 tc2 tc3 tc4 tc5 tc6 tc7 tc8
        refine (H3.out _).mono ?_
        rintro e w' ⟨rfl, hB1⟩  ;replace ht := ht.below hB1 ht.lt  ;replace hB := hB.trans (hB1.mono hB.size)  ;clear hB1  ;obtain ⟨tc0, tc1, tc2, tc3, tc4, tc5, tc6, tc7, tc8⟩ := tel_cells ht  ;go_wp2_with fail  ;clear tc0 tc1 tc2 tc3 tc4 tc5 tc6 tc7 tc8
        refine (H4.out _).mono ?_
        rintro e w' ⟨rfl, hB1⟩  ;replace ht := ht.below hB1 ht.lt  ;replace hB := hB.trans (hB1.mono hB.size)  ;clear hB1  ;obtain ⟨tc0, tc1, tc2, tc3, tc4, tc5, tc6, tc7, tc8⟩ := tel_cells ht  ;go_wp2_with fail  ;clear tc0 tc1 tc2 tc3 tc4 tc5 tc6 tc7 tc8
        go_ret
        exact ⟨ret_bool (by first | rfl | simp), hB⟩
      | true =>
        obtain ⟨q1, q2, q3⟩ := turnB_parts.1 h2
        obtain ⟨c1, c2⟩ := flB_bd q3
        obtain ⟨e3, v3⟩ := tE_good h2
        obtain ⟨e4, v4⟩ := tE_good (turnB_parts.2 ⟨p1, p2, q3⟩)
        have H3 := hid (fun w => turn_lit (t := t) hs' v3 e3 w)
        have H4 := hid (fun w => turn_lit (t := t) hs' v4 e4 w)
        have g1 : (decide (turnV t a b = 0) = decide (a = b)) := by
          apply decide_eq_decide.2; unfold turnV; omega
        have g2 : 0 ≤ turnV t a b := by unfold turnV; omega
        have g3 : turnV t a b ≤ t.filters := by unfold turnV; omega
        have g4 : turnV t a c ≤ turnV t a b + turnV t b c := by unfold turnV; omega
        have g5 : turnV t b c ≤ t.filters := by unfold turnV; omega
        have g6 : 0 ≤ turnV t b c := by unfold turnV; omega
        generalize turnV t a b = x1 at *
        generalize turnV t b c = x3 at *
        generalize turnV t a c = x4 at *
        have G1 := hid g1
        clear e1 v1 e2 v2 h1 h60 hs' hs h2 e3 v3 p1 p2 p3 q1 q2 q3 e4 v4 g1
        rw [telV_eq] at *
        skip  ;go_enter Tryd.func4, Tryd.ntmps4  ;go_wp2_with fail  ;obtain ⟨w0, hw0, ht, hB⟩ := tel_world t w  ;rw [hw0]  ;clear hw0  ;refine (head_any _).mono ?_  ;rintro e w' ⟨rfl, hB1⟩  ;replace ht := ht.below hB1 ht.lt  ;replace hB := hB.trans (hB1.mono hB.size)  ;clear hB1  ;obtain ⟨tc0, tc1, tc2, tc3, tc4, tc5, tc6, tc7, tc8⟩ := tel_cells ht  ;go_wp2_with fail  ;clear tc0 tc1 tc2 tc3 tc4 tc5 tc6 tc7 tc8  ;refine (HF.out _).mono ?_  ;rintro e w' ⟨rfl, hB1⟩  ;replace ht := ht.below hB1 ht.lt  ;replace hB := hB.trans (hB1.mono hB.size)  ;clear hB1  ;obtain ⟨tc0, tc1, tc2, tc3, tc4, tc5, tc6, tc7, tc8⟩ := tel_cells ht  ;go_wp2_with fail  ;clear tc0 tc1 tc2 tc3 tc4 tc5 tc6 tc7 tc8
        refine (H1.out _).mono ?_
        rintro e w' ⟨rfl, hB1⟩  ;replace ht := ht.below hB1 ht.lt  ;replace hB := hB.trans (hB1.mono hB.size)  ;clear hB1  ;obtain ⟨tc0, tc1, tc2, tc3, tc4, tc5, tc6, tc7, tc8⟩ := tel_cells ht  ;go_wp2_with fail  ;clear tc0 tc1 tc2 tc3 tc4 tc5 tc6 tc7 tc8
        refine (H2.out _).mono ?_
        rintro e w' ⟨rfl, hB1⟩  ;replace ht := ht.below hB1 ht.lt  ;replace hB := hB.trans (hB1.mono hB.size)  ;clear hB1  ;obtain ⟨tc0, tc1, tc2, tc3, tc4, tc5, tc6, tc7, tc8⟩ := tel_cells ht  ;go_wp2_with fail  ;clear tc0 tc1 tc2 tc3 tc4 tc5 tc6 tc7 tc8
        refine (H3.out _).mono ?_
        rintro e w' ⟨rfl, hB1⟩  ;replace ht := ht.below hB1 ht.lt  ;replace hB := hB.trans (hB1.mono hB.size)  ;clear hB1  ;obtain ⟨tc0, tc1, tc2, tc3, tc4, tc5, tc6, tc7, tc8⟩ := tel_cells ht  ;go_wp2_with fail  ;clear tc0 tc1 tc2 tc3 tc4 tc5 tc6 tc7 tc8
        refine (H4.out _).mono ?_
        rintro e w' ⟨rfl, hB1⟩  ;replace ht := ht.below hB1 ht.lt  ;replace hB := hB.trans (hB1.mono hB.size)  ;clear hB1  ;obtain ⟨tc0, tc1, tc2, tc3, tc4, tc5, tc6, tc7, tc8⟩ := tel_cells ht  ;go_wp2_with fail  ;clear tc0 tc1 tc2 tc3 tc4 tc5 tc6 tc7 tc8
        trace_state
        go_ret
        exact ⟨ret_bool (by first | rfl | simp), hB⟩
  · have HF := hid (fun w => few_lit (t := t) (b := false) hs (decide_eq_false h60) w)
    clear h60 hs
    rw [telV_eq] at *
    skip  ;go_enter Tryd.func4, Tryd.ntmps4  ;go_wp2_with fail  ;obtain ⟨w0, hw0, ht, hB⟩ := tel_world t w  ;rw [hw0]  ;clear hw0  ;refine (head_any _).mono ?_  ;rintro e w' ⟨rfl, hB1⟩  ;replace ht := ht.below hB1 ht.lt  ;replace hB := hB.trans (hB1.mono hB.size)  ;clear hB1  ;obtain ⟨tc0, tc1, tc2, tc3, tc4, tc5, tc6, tc7, tc8⟩ := tel_cells ht  ;go_wp2_with fail  ;clear tc0 tc1 tc2 tc3 tc4 tc5 tc6 tc7 tc8  ;refine (HF.out _).mono ?_  ;rintro e w' ⟨rfl, hB1⟩  ;replace ht := ht.below hB1 ht.lt  ;replace hB := hB.trans (hB1.mono hB.size)  ;clear hB1  ;obtain ⟨tc0, tc1, tc2, tc3, tc4, tc5, tc6, tc7, tc8⟩ := tel_cells ht  ;go_wp2_with fail  ;clear tc0 tc1 tc2 tc3 tc4 tc5 tc6 tc7 tc8
    go_ret
    exact ⟨ret_bool (by first | rfl | simp), hB⟩
end Go.Proofs.YthnkahilaampmaaDoor
