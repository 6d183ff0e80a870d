/- flow: the parser: operand -/
import Derived.Test.YtogcnmjipfllaaaDoorFloMak
import Derived.Test.YtogcnmjipfllaaaDoorLibP
import Derived.Test.YtogcnmjipfllaaaDoorFloPur
namespace Go.Proofs.YtogcnmjipfllaaaDoor
open Go.RowKit

theorem index_any (ao : Option Addr) (cap : Nat) (l : List ByteArray) (s : ByteArray) (w : World) (h : SlV w ao (strV l)) (hl : l.length ≤ 1000) :
    Calls Tryd.prog 55 #[.slice ao l.length cap, .string s] w fun e w' => e = .returned (.int .i64 (Lib.idxOfS l s)) ∧ w' = w := by
  cases l with
  | nil => exact Tryd.slices_Index_string_empty ao cap s w
  | cons x l =>
    obtain ⟨b, off, rfl, hb, _⟩ := h.cell 0 (.string x) rfl
    have := Tryd.slices_Index_string b off (x :: l).length cap (x :: l) s w (Nat.le_refl _) (by omega) (fun j hj => by
      obtain ⟨b', o', e, _, cj⟩ := h.cell j (.string ((x :: l).getD j ByteArray.empty)) (by unfold strV; rw [List.getElem?_map, List.getD, List.getElem?_eq_getElem hj]; rfl)
      cases e
      exact cj)
    rw [List.take_length] at this
    exact this
theorem index_is {ao : Option Addr} {cap n : Nat} {l : List ByteArray} {s : ByteArray} {w : World} (h : SlV w ao (strV l)) (hn : l.length = n) (hl : n ≤ 1000) {i : Int} (hi : Lib.idxOfS l s = i) :
    Calls Tryd.prog 55 #[.slice ao n cap, .string s] w fun e w' => e = .returned (.int .i64 i) ∧ w' = w := by
  subst hn hi
  exact index_any ao cap l s w h hl
/-- the names and the steps so far -/
def NS (w : World) (pb : Nat) (p : PT) (N : List ByteArray) (S : List Stp) : Prop :=
  ∃ no nc so sc, p.nv = .slice no N.length nc ∧ SlV w no (strV N) ∧ p.sv = .slice so S.length sc ∧ Stps w so S ∧ (∀ b off, no = some ⟨b, off, none⟩ → b ≠ pb) ∧ (∀ b off, so = some ⟨b, off, none⟩ → b ≠ pb) ∧ N.length = S.length ∧ N.length ≤ 1000
theorem NS.chg {w w' : World} {pb : Nat} {p : PT} {N : List ByteArray} {S : List Stp} (h : NS w pb p N S) (hc : Chg (fun b => b = pb) w w') : NS w' pb p N S := by
  obtain ⟨no, nc, so, sc, h1, h2, h3, h4, h5, h6, h7⟩ := h
  exact ⟨no, nc, so, sc, h1, SlV.chg h2 hc (fun b off e _ => h5 b off e), h3, SlV.chg h4 hc (fun b off e _ => h6 b off e), h5, h6, h7⟩
theorem NS.below {w w' : World} {pb : Nat} {p : PT} {N : List ByteArray} {S : List Stp} (h : NS w pb p N S) (hB : Below w.heap.size w w') : NS w' pb p N S := h.chg (Chg.ofBelow hB)
set_option maxHeartbeats 2000000 in
set_option maxRecDepth 100000 in
theorem opd_bad (pb : Nat) (mask : Bool) (p : PT) (ts : List Tok) (no : Option Addr) (nn nc : Nat) (w : World) (hP : PB w pb p ts) (hl : ts.length ≤ 1000000) (hnv : p.nv = .slice no nn nc) (hf : freeB ts = false) {x n : Int} (hfa : failAt p.en 5 ts = (x, n)) :
    Calls Tryd.prog 56 #[pT pb, .bool mask] w fun e w' => e = panicE x n ∧ Below w.heap.size w w' := by
  have HF := hid (fun (w' : World) (hB : Below w.heap.size w w') => free_no pb p ts w' (hP.below hB) hl hf hfa)
  obtain ⟨ao, cap, hb, -, -, -, -⟩ := hP
  have c2 := hb.cell 2
  simp only [List.getElem?_cons_zero, List.getElem?_cons_succ] at c2
  rw [hnv] at c2
  have k2 := cell_regrown c2
  clear hb c2
  unfold pT at HF ⊢
  go_enter Tryd.func56, Tryd.ntmps56
  go_wp2_with fail
  refine wp_region_panics 5 [0, 1, 2, 3, 4] (by kernel_rfl) (by kernel_rfl) ?_
  simp only [List.filterMap_cons, List.filterMap_nil, List.getElem?_cons_zero, List.getElem?_cons_succ]
  iterate 5 (first | go_big_quiet_step (fail) | quiet_step (fail))
  refine wpQuiet_nil ?_
  refine ⟨_, rfl, by kernel_rfl, ?_⟩
  rintro _ ⟨⟨dq, osq⟩, rfl⟩
  refine ⟨38, #[pT pb], by kernel_rfl, ?_⟩
  refine (HF.out _ (below_regrown w dq osq)).mono ?_
  rintro e8 w8 ⟨rfl, hB8⟩
  refine ⟨_, rfl, fun a' ha => ?_⟩
  exact ⟨ha, rfl, (below_regrown w dq osq).trans (hB8.mono (below_regrown w dq osq).size)⟩
end Go.Proofs.YtogcnmjipfllaaaDoor
