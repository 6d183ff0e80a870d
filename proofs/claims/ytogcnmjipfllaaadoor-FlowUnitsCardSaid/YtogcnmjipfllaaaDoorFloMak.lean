/- flow: the parser: makes -/
import Derived.Test.YtogcnmjipfllaaaDoorFloFree
namespace Go.Proofs.YtogcnmjipfllaaaDoor
open Go.RowKit

theorem stpsCells_len (l : List Stp) : (stpsCells l).length = 4 * l.length := by
  induction l with
  | nil => rfl
  | cons a l ih => simp only [stpsCells, List.flatMap_cons, List.length_append, List.length_cons] at ih ⊢; rw [ih]; simp [Stp.cells]; omega
theorem stpsCells_get : ∀ (l : List Stp) (i : Nat) (s : Stp), l[i]? = some s → ∀ j, j < 4 → (stpsCells l)[i * 4 + j]? = s.cells[j]?
  | [], _, _, h, _, _ => by simp at h
  | a :: l, 0, s, h, j, hj => by
    simp at h
    subst h
    simp only [stpsCells, List.flatMap_cons, Nat.zero_mul, Nat.zero_add]
    rw [List.getElem?_append_left (by simp [Stp.cells]; omega)]
  | a :: l, i + 1, s, h, j, hj => by
    simp only [stpsCells, List.flatMap_cons]
    rw [List.getElem?_append_right (by simp [Stp.cells]; omega)]
    have e : (i + 1) * 4 + j - a.cells.length = i * 4 + j := by simp [Stp.cells]; omega
    rw [e]
    exact stpsCells_get l i s (by simpa using h) j hj
def Stps (w : World) (ao : Option Addr) (S : List Stp) : Prop := SlV w ao (stpsCells S)
theorem Stps.at {w : World} {ao : Option Addr} {S : List Stp} (h : Stps w ao S) {i : Nat} {s : Stp} (hs : S[i]? = some s) :
    ∃ b off, ao = some ⟨b, off, none⟩ ∧ b < w.heap.size ∧ w.cell? ⟨b, off + i * 4, none⟩ = some (.int .i64 s.op) ∧ w.cell? ⟨b, off + i * 4 + 1, none⟩ = some (.int .i64 s.a) ∧ w.cell? ⟨b, off + i * 4 + 2, none⟩ = some (.int .i64 s.b) ∧ w.cell? ⟨b, off + i * 4 + 3, none⟩ = some (.int .i64 s.n) := by
  obtain ⟨b, off, q, hb, c0⟩ := h.cell _ _ (stpsCells_get S i s hs 0 (by omega))
  obtain ⟨b1, off1, q1, _, c1⟩ := h.cell _ _ (stpsCells_get S i s hs 1 (by omega))
  obtain ⟨b2, off2, q2, _, c2⟩ := h.cell _ _ (stpsCells_get S i s hs 2 (by omega))
  obtain ⟨b3, off3, q3, _, c3⟩ := h.cell _ _ (stpsCells_get S i s hs 3 (by omega))
  rw [q] at q1 q2 q3
  cases q1
  cases q2
  cases q3
  exact ⟨b, off, q, hb, c0, c1, c2, c3⟩
set_option maxHeartbeats 2000000 in
set_option maxRecDepth 100000 in
theorem makes_any (pb : Nat) (p : PT) (ts : List Tok) (so : Option Addr) (sc : Nat) (S : List Stp) (i : Nat) (s : Stp) (w : World) (hP : PB w pb p ts) (hsv : p.sv = .slice so S.length sc) (hS : Stps w so S) (hi : S[i]? = some s) (_hl : S.length ≤ 1000) :
    Calls Tryd.prog 43 #[pT pb, .int .i64 i] w fun e w' => e = .returned (.bool (opr s.op).m) ∧ Below w.heap.size w w' := by
  obtain ⟨ao, cap, hb, -, -, -, -⟩ := hP
  have c5 := hb.cell 5
  simp only [List.getElem?_cons_zero, List.getElem?_cons_succ] at c5
  rw [hsv] at c5
  obtain ⟨b, off, rfl, hbl, d0, -, -, -⟩ := hS.at hi
  have hil : i < S.length := (List.getElem?_eq_some_iff.1 hi).1
  generalize S.length = n at *
  obtain ⟨sop, sa, sb, sn⟩ := s
  simp only at d0 ⊢
  have hiI : (i : Int) < (n : Int) := by omega
  have hOP := hid (operators_is w.drew)
  have hpl := hb.lt
  have c5a : ∀ o, (w.alloc o).cell? ⟨pb, 5, none⟩ = some (.slice (some ⟨b, off, none⟩) n sc) := fun o => ((below_alloc w o).cell (p := ⟨pb, 5, none⟩) hpl).trans c5
  have d0a : ∀ o, (w.alloc o).cell? ⟨b, off + i * 4, none⟩ = some (.int .i64 sop) := fun o => ((below_alloc w o).cell (p := ⟨b, off + i * 4, none⟩) hbl).trans d0
  have HLK : (Instr.lookup 54 (.map (some w.heap.size)) (.int .i64 sop) false).run Tryd.prog ((w.alloc (.map oEs 10)).drew) = .ok (opr sop).v ((w.alloc (.map oEs 10)).drew) := look_no sop (heap_alloc_new w _)
  have HFD : ∀ w' : World, (Instr.field 52 (opr sop).v 4).run Tryd.prog w' = .ok (.bool (opr sop).m) w' := fun w' => by
    unfold Opr.v
    generalize (opr sop).word = x1
    generalize (opr sop).sym = x2
    kernel_rfl
  have hBf : Below w.heap.size w (w.alloc (.map oEs 10)).drew := (below_alloc w _).drew
  generalize (opr sop).m = m at *
  generalize (opr sop).v = V at *
  clear hb hi hS hsv hil
  unfold pT
  go_enter Tryd.func43, Tryd.ntmps43
  go_upto_region 1 with fail
  go_region_with
    (go_at_call 19; refine (hOP.out).mono ?_; rintro e8 w8 ⟨rfl, rfl⟩)
  all_goals
    go_wp2_with fail
    go_ret
    exact ⟨ret_bool (by first | rfl | simp), hBf⟩
end Go.Proofs.YtogcnmjipfllaaaDoor
