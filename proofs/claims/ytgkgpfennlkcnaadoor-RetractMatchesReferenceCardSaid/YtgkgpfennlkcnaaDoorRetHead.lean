/- retract: the laws' head -/
import Derived.Test.YtgkgpfennlkcnaaDoorRetEx
namespace Go.Proofs.YtgkgpfennlkcnaaDoor
open Go.RowKit

theorem ex_len {L : List Ent} (h : ps L = EX) : L.length = 6 := by
  have := congrArg List.length h
  simpa [ps, EX] using this
theorem ex_small {L : List Ent} (h : ps L = EX) : Small L := by
  refine ⟨by rw [ex_len h]; omega, fun e he => ?_⟩
  have hm : e.p ∈ EX := by rw [← h]; exact List.mem_map.2 ⟨e, he, rfl⟩
  have key : ∀ p ∈ EX, p.id.size ≤ 1000000 ∧ p.cs.length ≤ 100000 := by decide +kernel
  exact key _ hm
theorem ex_ok {L : List Ent} (h : ps L = EX) : ValidL L := by
  rw [← validC_iff, h]; exact ex_valid
theorem supp_ex {L : List Ent} (h : ps L = EX) {ao ro : Option Addr} {cap rc : Nat} {R : List ByteArray} {w : World} (hE : Ents w ao L) (hR : SlV w ro (strsV R)) (hl : R.length ≤ 1000) (l : List Bool) (hs : supM EX R = l) :
    Calls Tryd.prog 10 #[.slice ao 6 cap, .slice ro R.length rc] w fun e w' => ∃ bo cb, e = .returned (.tuple #[.slice bo l.length cb, .int .i64 0]) ∧ SlV w' bo (bools l) ∧ Below w.heap.size w w' := by
  have := supp_any ao ro cap rc L R w hE (ex_small h) hR (by omega)
  have hj : judB L R = true := by unfold judB; rw [validB_iff.2 (ex_ok h), decide_eq_true hl]; rfl
  unfold supR at this
  rw [if_pos hj, ← supM_is (ex_ok h), h, hs, ex_len h] at this
  exact this.mono fun e w' ⟨bo, cb, h1, h2, h3⟩ => ⟨bo, cb, h1, h2, h3⟩
theorem bec_ex {L : List Ent} (h : ps L = EX) {ao : Option Addr} {cap : Nat} {id : ByteArray} {w : World} (hE : Ents w ao L) (x : List ByteArray) (er : Int) (hs : becM EX id = (x, er)) :
    Calls Tryd.prog 12 #[.slice ao 6 cap, .string id] w fun e w' => ∃ bo cb, e = .returned (.tuple #[.slice bo x.length cb, .int .i64 er]) ∧ SlV w' bo (strsV x) ∧ Below w.heap.size w w' := by
  have := bec_any ao cap L id w hE (ex_small h)
  rw [ex_len h] at this
  refine this.mono ?_
  rintro e w' ⟨y, f, bo, cb, h1, h2, h3, h4⟩
  have k := becM_is (ex_ok h) id
  rw [h, hs] at k
  obtain ⟨rfl, rfl⟩ := h1.uniq k
  exact ⟨bo, cb, h2, h3, h4⟩
set_option maxHeartbeats 4000000 in
set_option maxRecDepth 100000 in
theorem tainted_yes (wo ro : Option Addr) (cw cr : Nat) (W R : List ByteArray) (w : World) (hW : SlV w wo (strsV W)) (hR : SlV w ro (strsV R)) (hl : R.length ≤ 1000) (hT : taintM EX R = W) (hWl : W.length ≤ 1000) :
    Calls Tryd.prog 23 #[.slice wo W.length cw, .slice ro R.length cr] w fun e w' => e = .returned (.bool true) ∧ Below w.heap.size w w' := by
  go_enter Tryd.func23, Tryd.ntmps23
  go_wp2_with fail
  refine (example_any w).mono ?_
  rintro e w1 ⟨L, ao, cap, rfl, hE, hL, hB1⟩
  go_wp2_with fail
  have := taint_any ao ro cap cr L R w1 hE (ex_small hL) (hR.below hB1) (by omega)
  have hj : judB L R = true := by unfold judB; rw [validB_iff.2 (ex_ok hL), decide_eq_true hl]; rfl
  unfold taintR at this
  rw [if_pos hj, ← taintM_is (ex_ok hL), hL, hT, ex_len hL] at this
  refine this.mono ?_
  rintro e w2 ⟨bo, cb, rfl, hS, hB2, -⟩
  have hB := bthen hB1 hB2
  go_wp2_with fail
  refine (same01_yes bo wo cb cw W w2 hS (hW.below hB) (by omega)).mono ?_
  rintro e w3 ⟨rfl, hB3⟩
  go_wp2_with fail
  go_ret
  exact ⟨rfl, bthen hB hB3⟩
theorem slv_strs (w : World) (l : List ByteArray) (h : l.length ≤ 1000) : SlV (w.alloc (.cells (strsV l).toArray 9)) (some ⟨w.heap.size, 0, none⟩) (strsV l) := by
  have := slv_made w (strsV l).toArray 9 (by simp [strsV]; exact h)
  simpa using this
theorem tainted_ex (w : World) (W R : List ByteArray) (hT : taintM EX R = W) (hW : W.length ≤ 1000) (hR : R.length ≤ 1000) :
    Calls Tryd.prog 23 #[.slice (some ⟨w.heap.size, 0, none⟩) W.length W.length, .slice (some ⟨w.heap.size + 1, 0, none⟩) R.length R.length] ((w.alloc (.cells (strsV W).toArray 9)).alloc (.cells (strsV R).toArray 9)) fun e w' => e = .returned (.bool true) ∧ Below w.heap.size w w' := by
  have h2 := slv_strs (w.alloc (.cells (strsV W).toArray 9)) R hR
  rw [World.size_alloc] at h2
  exact (tainted_yes _ _ _ _ W R _ ((slv_strs w W hW).below (below_alloc _ _)) h2 hR hT hW).mono fun e w' ⟨h, hB⟩ => ⟨h, unalloc (unalloc hB)⟩
theorem tainted_ex0 (w : World) (W : List ByteArray) (hT : taintM EX [] = W) (hW : W.length ≤ 1000) :
    Calls Tryd.prog 23 #[.slice (some ⟨w.heap.size, 0, none⟩) W.length W.length, .slice none 0 0] (w.alloc (.cells (strsV W).toArray 9)) fun e w' => e = .returned (.bool true) ∧ Below w.heap.size w w' :=
  (tainted_yes _ none _ 0 W [] _ (slv_strs w W hW) ⟨by simp [strsV], by simp [strsV]⟩ (by simp) hT hW).mono fun e w' ⟨h, hB⟩ => ⟨h, unalloc hB⟩
theorem same_ex (w : World) (ao : Option Addr) (ca : Nat) (W : List ByteArray) (hA : SlV w ao (strsV W)) (hW : W.length ≤ 1000) :
    Calls Tryd.prog 16 #[.slice ao W.length ca, .slice (some ⟨w.heap.size, 0, none⟩) W.length W.length] (w.alloc (.cells (strsV W).toArray 9)) fun e w' => e = .returned (.bool true) ∧ Below w.heap.size w w' :=
  (same01_yes _ _ _ _ W _ (hA.below (below_alloc _ _)) (slv_strs w W hW) (by omega)).mono fun e w' ⟨h, hB⟩ => ⟨h, unalloc hB⟩
set_option maxHeartbeats 4000000 in
set_option maxRecDepth 100000 in
theorem head_any (w : World) : Calls Tryd.prog 8 #[] w fun e w' => e = .returned (.bool true) ∧ Below w.heap.size w w' := by
  have hnil : ∀ w : World, SlV w none (strsV []) := fun w => ⟨by simp [strsV], by simp [strsV]⟩
  go_enter Tryd.func8, Tryd.ntmps8
  go_wp2_with fail
  refine (example_any w).mono ?_
  rintro e w1 ⟨L1, a1, cap1, rfl, hE1, hL1, hB1⟩
  go_wp2_with fail
  refine (supp_ex hL1 hE1 (hnil _) (by simp) _ ex_sup).mono ?_
  rintro e w2 ⟨lo, lc, rfl, hl, hB2⟩
  replace hB2 := bthen hB1 hB2
  clear hB1 hE1 hL1
  go_wp2_with fail
  refine (example_any w2).mono ?_
  rintro e w3 ⟨L1, a1, cap1, rfl, hE1, hL1, hB1⟩
  go_wp2_with fail
  refine (bec_ex hL1 (id := sD) hE1 _ _ ex_bD).mono ?_
  rintro e w4 ⟨do_, dc, rfl, hd, hB3⟩
  replace hB1 := bthen hB1 hB3
  replace hl := hl.below hB1
  replace hB2 := bthen hB2 hB1
  clear hB1 hE1 hL1 hB3
  go_wp2_with fail
  refine (example_any _).mono ?_
  rintro e w3 ⟨L1, a1, cap1, rfl, hE1, hL1, hB1⟩
  go_wp2_with fail
  refine (bec_ex hL1 (id := sA) hE1 _ _ ex_bA).mono ?_
  rintro e w4 ⟨bo, bc, rfl, hb, hB3⟩
  replace hB1 := bthen hB1 hB3
  replace hl := hl.below hB1
  replace hd := hd.below hB1
  replace hB2 := bthen hB2 hB1
  clear hB1 hE1 hL1 hB3
  go_wp2_with fail
  refine (example_any _).mono ?_
  rintro e w3 ⟨L1, a1, cap1, rfl, hE1, hL1, hB1⟩
  go_wp2_with fail
  refine (bec_ex hL1 (id := sE) hE1 _ _ ex_bE).mono ?_
  rintro e w4 ⟨co, cc, rfl, hc, hB3⟩
  replace hB1 := bthen hB1 hB3
  replace hl := hl.below hB1
  replace hd := hd.below hB1
  replace hb := hb.below hB1
  replace hB2 := bthen hB2 hB1
  clear hB1 hE1 hL1 hB3 hc
  go_wp2_with fail
  refine (example_any _).mono ?_
  rintro e w3 ⟨L1, a1, cap1, rfl, hE1, hL1, hB1⟩
  go_wp2_with fail
  refine (bec_ex hL1 (id := sX) hE1 _ _ ex_bX).mono ?_
  rintro e w4 ⟨fo, fc, rfl, hf, hB3⟩
  replace hB1 := bthen hB1 hB3
  replace hl := hl.below hB1
  replace hd := hd.below hB1
  replace hb := hb.below hB1
  replace hB2 := bthen hB2 hB1
  clear hB1 hE1 hL1 hB3 hf
  clear w1 w2 w3
  go_wp2_with fail
  refine (bools_yes lo _ lc 6 [true, true, true, true, false, false] _ (hl.below (below_alloc _ _)) (slv_made _ _ _ (by decide)) (by decide)).mono ?_
  rintro e w4 ⟨rfl, hB3⟩
  replace hB3 := unalloc hB3
  clear hl
  replace hd := hd.below hB3
  replace hb := hb.below hB3
  replace hB2 := bthen hB2 hB3
  clear hB3
  go_wp2_with fail
  refine (tainted_ex0 _ [sE, sF] ex_t0 (by decide)).mono ?_
  rintro e w4 ⟨rfl, hB3⟩
  replace hd := hd.below hB3
  replace hb := hb.below hB3
  replace hB2 := bthen hB2 hB3
  clear hB3
  go_wp2_with fail
  refine (tainted_ex _ [sE, sF] [sB] ex_t1 (by decide) (by decide)).mono ?_
  rintro e w4 ⟨rfl, hB3⟩
  replace hd := hd.below hB3
  replace hb := hb.below hB3
  replace hB2 := bthen hB2 hB3
  clear hB3
  go_wp2_with fail
  refine (tainted_ex _ [sB, sC, sD, sE, sF] [sA] ex_t2 (by decide) (by decide)).mono ?_
  rintro e w4 ⟨rfl, hB3⟩
  replace hd := hd.below hB3
  replace hb := hb.below hB3
  replace hB2 := bthen hB2 hB3
  clear hB3
  go_wp2_with fail
  refine (tainted_ex _ [sD, sE, sF] [sB, sC] ex_t3 (by decide) (by decide)).mono ?_
  rintro e w4 ⟨rfl, hB3⟩
  replace hd := hd.below hB3
  replace hb := hb.below hB3
  replace hB2 := bthen hB2 hB3
  clear hB3
  go_wp2_with fail
  refine (same_ex _ do_ dc [sA, sB, sD] hd (by decide)).mono ?_
  rintro e w4 ⟨rfl, hB3⟩
  replace hd := hd.below hB3
  replace hb := hb.below hB3
  replace hB2 := bthen hB2 hB3
  clear hB3
  go_wp2_with fail
  refine (same_ex _ bo bc [sA] hb (by decide)).mono ?_
  rintro e w4 ⟨rfl, hB3⟩
  replace hd := hd.below hB3
  replace hb := hb.below hB3
  replace hB2 := bthen hB2 hB3
  clear hB3
  go_wp2_with fail
  go_ret
  exact ⟨rfl, hB2⟩
end Go.Proofs.YtgkgpfennlkcnaaDoor
