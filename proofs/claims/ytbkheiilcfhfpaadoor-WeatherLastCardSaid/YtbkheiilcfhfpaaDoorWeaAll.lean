/- weather: all -/
import Derived.Test.YtbkheiilcfhfpaaDoorWeaForm
import Derived.Laws.CopyOwn
import Derived.LoopN
namespace Go.Proofs.YtbkheiilcfhfpaaDoor
open Go.RowKit

theorem results_row2 {P : Program} {fn : Func} {p q : Tmp} {ty : TypeId} (h : fn.results = #[.cell p ty, .tmp q]) (tmps : Array Value) (w : World) (g : Nat) (t : TypeId) (cs : Array Value) (d : TypeDesc)
    (hp : tmps.getD p undef = .pointer (some ⟨g, 0, none⟩)) (hg : w.heap[g]? = some (.cells cs t (0, 0)))
    (hu : P.underlying ty = some d) (hd : (match d with | .struct _ | .array _ _ => true | _ => false) = true) (hi : (P.info? ty).map (·.size) = some cs.size) :
    (results fn tmps).run P w = .ok (.tuple #[.agg cs, tmps.getD q undef]) w := by
  have hp' : tmps[p]?.getD undef = .pointer (some ⟨g, 0, none⟩) := by simpa using hp
  simp [results, h, hp', asAddr, run_loadVar_row w g t ty cs (0, 0) d hg hu hd hi]

def spsCells (L : List Sp) : List Value := L.flatMap Sp.cells
theorem spsCells_len (L : List Sp) : (spsCells L).length = 5 * L.length := by
  induction L with
  | nil => rfl
  | cons s L ih => simp only [spsCells, List.flatMap_cons, List.length_append, List.length_cons] at ih ⊢; rw [ih]; simp [Sp.cells]; omega
theorem spsCells_get (L : List Sp) (i : Nat) (s : Sp) (h : L[i]? = some s) (j : Nat) (hj : j < 5) : (spsCells L)[i * 5 + j]? = s.cells[j]? := by
  induction L generalizing i with
  | nil => simp at h
  | cons t L ih =>
    cases i with
    | zero =>
      have e : t = s := by simpa using h
      subst e
      show (t.cells ++ spsCells L)[0 * 5 + j]? = _
      rw [List.getElem?_append_left (by simp [Sp.cells]; omega)]
      simp
    | succ i =>
      have := ih i (by simpa using h)
      show (t.cells ++ spsCells L)[(i + 1) * 5 + j]? = _
      rw [List.getElem?_append_right (by simp [Sp.cells]; omega)]
      have e : (i + 1) * 5 + j - t.cells.length = i * 5 + j := by simp [Sp.cells]; omega
      rw [e, this]
/-- spells, to be read -/
def Sps (w : World) (ao : Option Addr) (L : List Sp) : Prop := SlV w ao (spsCells L)
theorem Sps.below {w w' : World} {ao : Option Addr} {L : List Sp} (h : Sps w ao L) (hB : Below w.heap.size w w') : Sps w' ao L := SlV.below h hB
theorem Sps.at {w : World} {ao : Option Addr} {L : List Sp} (h : Sps w ao L) {i : Nat} {s : Sp} (hs : L[i]? = some s) :
    ∃ b off, ao = some ⟨b, off, none⟩ ∧ b < w.heap.size ∧ w.cell? ⟨b, off + i * 5, none⟩ = some (.int .i64 s.k) ∧ w.cell? ⟨b, off + i * 5 + 1, none⟩ = some (.int .i64 s.q) ∧
      w.cell? ⟨b, off + i * 5 + 2, none⟩ = some (.int .i64 s.n) ∧ w.cell? ⟨b, off + i * 5 + 3, none⟩ = some (.int .i64 s.a) ∧ w.cell? ⟨b, off + i * 5 + 4, none⟩ = some (.int .i64 s.b) := by
  obtain ⟨b, off, e, hb, c0⟩ := h.cell _ _ (spsCells_get L i s hs 0 (by omega))
  obtain ⟨b1, off1, e1, _, c1⟩ := h.cell _ _ (spsCells_get L i s hs 1 (by omega))
  obtain ⟨b2, off2, e2, _, c2⟩ := h.cell _ _ (spsCells_get L i s hs 2 (by omega))
  obtain ⟨b3, off3, e3, _, c3⟩ := h.cell _ _ (spsCells_get L i s hs 3 (by omega))
  obtain ⟨b4, off4, e4, _, c4⟩ := h.cell _ _ (spsCells_get L i s hs 4 (by omega))
  rw [e] at e1 e2 e3 e4
  cases e1; cases e2; cases e3; cases e4
  exact ⟨b, off, e, hb, c0, c1, c2, c3, c4⟩
def allB (L : List Sp) : Bool := decide (L.length ≤ 200) && L.all formB
set_option maxHeartbeats 1000000 in
theorem all_any (ao : Option Addr) (cap : Nat) (L : List Sp) (w : World) (hA : Sps w ao L) (hl : L.length ≤ 100000) : Calls Tryd.prog 23 #[.slice ao L.length cap] w fun e w' => e = .returned (.bool (allB L)) ∧ Below w.heap.size w w' := by
  by_cases hs : L.length ≤ 200
  · have e0 : allB L = L.all formB := by unfold allB; rw [decide_eq_true hs]; simp
    rw [e0]
    clear e0
    generalize hn : L.length = len at *
    generalize hR : L.all formB = R
    have HR := hid hR
    clear hR
    go_enter Tryd.func23, Tryd.ntmps23
    go_wp2_with fail
    go_loopw [10] (fun s10 wr => ∃ k : Nat, s10 = .int .i64 k ∧ k ≤ len ∧ Hid ((L.take k).all formB = true) ∧ Below w.heap.size w wr) (fun s10 _ => len - (intOf s10).toNat)
    case atStart => exact ⟨0, rfl, by omega, hid rfl, Below.refl _ _⟩
    case round =>
      obtain ⟨k, rfl, hk, HP, hB⟩ := hrel
      by_cases hkl : k < len
      · obtain ⟨s, hs⟩ : ∃ t, L[k]? = some t := ⟨_, List.getElem?_eq_getElem (by omega)⟩
        obtain ⟨b, off, ea, hb, a0, a1, a2, a3, a4⟩ := (hA.below hB).at hs
        subst ea
        clear hb
        have HF := hid (fun w => formed_any s w)
        have HN : Hid ((L.take (k + 1)).all formB = formB s) := by
          rw [List.take_add_one, hs, List.all_append, HP.out]; simp [Hid]
        have HD : Hid (formB s = false → R = false) := by
          intro hf
          rw [← HR.out]
          rw [← List.take_append_drop (k + 1) L, List.all_append, HN.out, hf]; rfl
        obtain ⟨sk, sq, sn, sa, sb⟩ := s
        obtain ⟨f, hf⟩ : ∃ f, formB ⟨sk, sq, sn, sa, sb⟩ = f := ⟨_, rfl⟩
        rw [hf] at HF HD HN
        clear hf
        simp only [Sp.v, Sp.cells] at HF a0 a1 a2 a3 a4
        go_wp2_with fail
        refine (HF.out _).mono ?_
        rintro e w' ⟨rfl, hB1⟩
        replace hB := (hB.alloc hB.size _).trans (hB1.mono (by have := hB.size; rw [World.size_alloc]; omega))
        clear hB1 a0 a1 a2 a3 a4
        cases f
        · go_wp2_with fail
          go_ret
          exact ⟨ret_bool (HD.out (by trivial)).symm, hB⟩
        · go_wp2_with fail
          go_roundw
          case rel => exact ⟨k + 1, by go_num, by omega, HN, hB⟩
          case measure => simp [intOf]; omega
      · obtain rfl : k = len := by omega
        go_wp2_with fail
        go_ret
        refine ⟨ret_bool ?_, hB⟩
        rw [← HR.out, ← HP.out, ← hn, List.take_length]
  · have e0 : allB L = false := by unfold allB; rw [decide_eq_false hs]; rfl
    rw [e0]
    generalize hn : L.length = len at *
    go_enter Tryd.func23, Tryd.ntmps23
    go_wp2_with fail
    go_ret
    exact ⟨ret_bool (by first | rfl | simp), Below.refl _ _⟩
end Go.Proofs.YtbkheiilcfhfpaaDoor
