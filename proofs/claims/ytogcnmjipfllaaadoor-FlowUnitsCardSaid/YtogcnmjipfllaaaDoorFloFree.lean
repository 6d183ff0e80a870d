/- flow: the parser: free, makes, operand -/
import Derived.Test.YtogcnmjipfllaaaDoorFloRes
import Derived.Test.YtogcnmjipfllaaaDoorStepN
import Derived.Deep.RegionHeldLaw
import Derived.RegionTactic
import Derived.BigRegion
import Derived.Lib.QuietBelow
import Derived.BigQuiet
import Derived.Deep.CutRange
namespace Go.Proofs.YtogcnmjipfllaaaDoor
open Go.RowKit

/-- a call at a step of a region that draws its order, guarded or not -/
theorem step_callG {P : Program} {ops : Array Oper} {o : Oper} {a : Act} {w : World} {K : Act → World → Prop} {Q : Exit → Act → World → Prop} {E : Prop} {xs : Array Operand} {ts : Array TypeId} (W : World) (f : FuncId) (_ho : o.op = .call { callee := .value (.func f), args := xs, argTypes := ts }) (args : Array Value) (R : Value → World → Prop) (hw : w = W) (hg : Region.wanted o (yielded ops a.tmps) = true)
    (hrun : (execOp a.eval o).run P W = .ok (.enter f args) W) (hc : Calls P f args W fun e w' => ∃ v, e = .returned v ∧ R v w') (h : ∀ v w', R v w' → K (a.put o.dst v) w') :
    if Region.wanted o (yielded ops a.tmps) = true then Oper.wp P o a w K Q else E := by
  subst hw
  rw [if_pos hg]
  unfold Oper.wp
  rw [hrun]
  exact hc.mono (by rintro e w' ⟨v, rfl, hr⟩; exact h v w' hr)
theorem rcont_any (ao : Option Addr) (cap : Nat) (l : List ByteArray) (s : ByteArray) (w : World) (h : SlV w ao (strV l)) (hl : l.length ≤ 100) :
    Calls Tryd.prog 39 #[.slice ao l.length cap, .string s] w fun e w' => ∃ v, e = .returned v ∧ (v = .bool (Lib.containsS l s) ∧ w' = w) := by
  cases l with
  | nil => exact (Tryd.slices_Contains_string_empty ao cap s w).mono (fun e w' q => ⟨_, q.1, rfl, q.2⟩)
  | cons x l =>
    obtain ⟨b, off, rfl, hb, _⟩ := h.cell 0 (.string x) rfl
    have := Tryd.slices_Contains_string b off (x :: l).length cap (x :: l) s w (Nat.le_refl _) (by omega) (fun j hj => by
      obtain ⟨b', o', e, _, cj⟩ := h.cell j (.string ((x :: l).getD j ByteArray.empty)) (by unfold strV; rw [List.getElem?_map, List.getD, List.getElem?_eq_getElem hj]; rfl)
      cases e
      exact cj)
    rw [List.take_length] at this
    exact this.mono (fun e w' q => ⟨_, q.1, rfl, q.2⟩)
theorem rcont_is {ao : Option Addr} {cap : Nat} {l : List ByteArray} {s : ByteArray} {w : World} (h : SlV w ao (strV l)) (hl : l.length ≤ 100) {b : Bool} (hb : Lib.containsS l s = b) :
    Calls Tryd.prog 39 #[.slice ao l.length cap, .string s] w fun e w' => ∃ v, e = .returned v ∧ (v = .bool b ∧ w' = w) := by
  subst hb; exact rcont_any ao cap l s w h hl
theorem res_no {l : List ByteArray} {s : ByteArray} (hm : ∀ x, x ∈ l ↔ x ∈ resW) (h : s ∉ resW) : Lib.containsS l s = false := by
  rw [Bool.eq_false_iff]
  exact fun q => h ((hm s).1 ((Lib.containsS_iff _ _).1 q))
theorem res_yes {l : List ByteArray} {s : ByteArray} (hm : ∀ x, x ∈ l ↔ x ∈ resW) (h : s ∈ resW) : Lib.containsS l s = true := (Lib.containsS_iff _ _).2 ((hm s).2 h)
def freeB (ts : List Tok) : Bool := match ts with
  | [] => false
  | t :: _ => decide (t.k = 1) && !Lib.containsS resW ⟨t.t.toArray⟩
set_option maxHeartbeats 800000 in
set_option maxRecDepth 100000 in
theorem free_yes (pb : Nat) (p : PT) (t : Tok) (r : List Tok) (w : World) (hP : PB w pb p (t :: r)) (hl : (t :: r).length ≤ 1000000) (hf : freeB (t :: r) = true) :
    Calls Tryd.prog 38 #[pT pb] w fun e w' => e = .returned (.string ⟨t.t.toArray⟩) ∧ Below w.heap.size w w' := by
  obtain ⟨ao, cap, hb, hT, h1, h2, h3⟩ := id hP
  obtain ⟨b, off, rfl, hlt, -, a1, -, -⟩ := Toks.get hT (i := 0) rfl
  have c0 := hb.cell 0
  simp only [List.getElem?_cons_zero, List.length_cons] at c0
  simp only [Nat.mul_zero, Nat.zero_add] at a1
  have hpl := hP.lt
  have hk : t.k = 1 ∧ (⟨t.t.toArray⟩ : ByteArray) ∉ resW := by
    unfold freeB at hf
    simp only [Bool.and_eq_true, decide_eq_true_eq, Bool.not_eq_true'] at hf
    exact ⟨hf.1, fun q => by rw [(Lib.containsS_iff _ _).2 q] at hf; exact absurd hf.2 (by simp)⟩
  have hs : seesB 1 [] (t :: r) = true := by unfold seesB; simp [hk.1]
  have HNR := hid hk.2
  have HP := hid hP
  have hsee : Calls Tryd.prog 37 #[pT pb, .int .i64 1, .string ⟨#[]⟩] w.drew fun e w' => ∃ v, e = .returned v ∧ (v = .bool true ∧ w' = w.drew) :=
    (sees_is pb 1 [] p _ w.drew (hP.below (Below.refl _ w).drew) hs).mono (fun e w' h => ⟨_, h.1, rfl, h.2.symm⟩)
  have HSE := hid hsee
  have hres : Calls Tryd.prog 54 #[] w.drew fun e w' => ∃ v, e = .returned v ∧ (∃ ao cap l, v = .slice ao l.length cap ∧ SlV w' ao (strV l) ∧ l.length ≤ 100 ∧ (∀ s, s ∈ l ↔ s ∈ resW) ∧ Below w.drew.heap.size w.drew w') :=
    (reserved_any w.drew).mono (fun e w' ⟨ao, cap, l, q⟩ => ⟨_, q.1, ao, cap, l, rfl, q.2⟩)
  have HRE := hid hres
  have hpos : (0 : Int) < ((r.length + 1 : Nat) : Int) := by omega
  have hp1 : 0 < r.length + 1 := by omega
  clear hsee hres hb hT h1 h2 h3 hk hs hf
  generalize r.length + 1 = rl at *
  obtain ⟨tk, tt, tn, ta⟩ := t
  simp only at a1 HNR
  unfold pT at HSE ⊢
  clear hP HP hl
  go_enter Tryd.func38, Tryd.ntmps38
  go_upto_region 1 with fail
  go_cut [16] from 3 to 16 (fun s16 wx => s16 = .bool false ∧ Below w.heap.size w wx)
  case first =>
    go_region_with
      (first
        | (go_at_call 37; refine (HSE.out).mono ?_; rintro e8 w8 ⟨_, rfl, rfl, rfl⟩)
        | (go_at_call 54; refine (HRE.out).mono ?_; rintro e9 w9 ⟨_, rfl, ao9, cap9, l9, rfl, hs9, hl9, hm9, B9⟩; have d0 := (B9.cell (p := ⟨pb, 0, none⟩) hpl).trans c0; have d1 := (B9.cell (p := ⟨b, off + 1, none⟩) hlt).trans a1; have hBf : Below w.heap.size w w9 := (Below.refl w.heap.size w).drew.trans B9)
        | (go_at_call 39; refine (rcont_is hs9 hl9 (res_no hm9 HNR.out)).mono ?_; rintro e7 w7 ⟨_, rfl, rfl, rfl⟩))
    all_goals
      go_wp2_with fail
      go_meet
      case rel => exact ⟨rfl, by assumption⟩
  case rest =>
    obtain ⟨rfl, hB⟩ := hcut
    have d0 := (hB.cell (p := ⟨pb, 0, none⟩) hpl).trans c0
    have d1 := (hB.cell (p := ⟨b, off + 1, none⟩) hlt).trans a1
    clear HSE HRE c0 a1
    go_wp2_with fail
    go_ret
    exact ⟨rfl, hB⟩
set_option maxHeartbeats 2000000 in
set_option maxRecDepth 100000 in
theorem free_no (pb : Nat) (p : PT) (ts : List Tok) (w : World) (hP : PB w pb p ts) (hl : ts.length ≤ 1000000) (hf : freeB ts = false) {x n : Int} (hfa : failAt p.en 5 ts = (x, n)) :
    Calls Tryd.prog 38 #[pT pb] w fun e w' => e = panicE x n ∧ Below w.heap.size w w' := by
  have HP := hid hP
  have hpl := hP.lt
  have HFA := hid (fun (w' : World) (hB : Below w.heap.size w w') => fail_is pb 5 p ts w' (hP.below hB) hl hfa)
  cases hs : seesB 1 [] ts with
  | false =>
    have hsee : ∀ d os, Calls Tryd.prog 37 #[pT pb, .int .i64 1, .string ⟨#[]⟩] (Go.Sort.grow (redrawn w d) os) fun e w' => e = .returned (.bool false) ∧ Below (Go.Sort.grow (redrawn w d) os).heap.size (Go.Sort.grow (redrawn w d) os) w' :=
      fun d os => (sees_is pb 1 [] p _ _ (hP.below (below_regrown w d os)) hs).mono (fun e w' h => ⟨h.1, by rw [← h.2]; exact Below.refl _ _⟩)
    have cS := hid (fun d os => Calls.regrown_of (hsee d os))
    clear hsee hP hs hf hfa HP
    unfold pT at cS HFA ⊢
    go_enter Tryd.func38, Tryd.ntmps38
    go_wp2_with fail
    refine wp_region_quiet_below (by kernel_rfl) (by kernel_rfl) ?_
    repeat (first | go_big_quiet_step (exact cS.out _ _) | quiet_step (exact cS.out _ _))
    refine wpQuiet_nil ?_
    intro _ hw'
    obtain ⟨⟨dq, osq⟩, hw''⟩ := hw'
    subst hw''
    have hB := below_regrown w dq osq
    clear cS
    go_wp2_with fail
    refine (HFA.out _ hB).mono ?_
    rintro e w2 ⟨rfl, rfl⟩
    exact ⟨rfl, rfl, hB⟩
  | true =>
    obtain ⟨t, r, rfl⟩ : ∃ t r, ts = t :: r := by
      cases ts with
      | nil => cases hs
      | cons t r => exact ⟨t, r, rfl⟩
    obtain ⟨ao, cap, hb, hT, h1, h2, h3⟩ := id hP
    obtain ⟨b, off, rfl, hlt, -, a1, -, -⟩ := Toks.get hT (i := 0) rfl
    have c0 := hb.cell 0
    simp only [List.getElem?_cons_zero, List.length_cons] at c0
    simp only [Nat.mul_zero, Nat.zero_add] at a1
    have hk : (⟨t.t.toArray⟩ : ByteArray) ∈ resW := by
      have h1 : t.k = 1 := by unfold seesB at hs; simpa using hs
      unfold freeB at hf
      simp only [h1, decide_true, Bool.true_and, Bool.not_eq_false'] at hf
      exact (Lib.containsS_iff _ _).1 hf
    have HNR := hid hk
    have hsee : Calls Tryd.prog 37 #[pT pb, .int .i64 1, .string ⟨#[]⟩] w.drew fun e w' => ∃ v, e = .returned v ∧ (v = .bool true ∧ w' = w.drew) :=
      (sees_is pb 1 [] p _ w.drew (hP.below (Below.refl _ w).drew) hs).mono (fun e w' h => ⟨_, h.1, rfl, h.2.symm⟩)
    have HSE := hid hsee
    have hres : Calls Tryd.prog 54 #[] w.drew fun e w' => ∃ v, e = .returned v ∧ (∃ ao cap l, v = .slice ao l.length cap ∧ SlV w' ao (strV l) ∧ l.length ≤ 100 ∧ (∀ s, s ∈ l ↔ s ∈ resW) ∧ Below w.drew.heap.size w.drew w') :=
      (reserved_any w.drew).mono (fun e w' ⟨ao, cap, l, q⟩ => ⟨_, q.1, ao, cap, l, rfl, q.2⟩)
    have HRE := hid hres
    have hpos : (0 : Int) < ((r.length + 1 : Nat) : Int) := by omega
    have hp1 : 0 < r.length + 1 := by omega
    clear hsee hres hb hT h1 h2 h3 hk hs hf
    generalize r.length + 1 = rl at *
    obtain ⟨tk, tt, tn, ta⟩ := t
    simp only at a1 HNR
    unfold pT at HSE HFA ⊢
    clear hP HP hl hfa
    go_enter Tryd.func38, Tryd.ntmps38
    go_upto_region 1 with fail
    go_cut [16] from 3 to 16 (fun s16 wx => s16 = .bool true ∧ Below w.heap.size w wx)
    case first =>
      go_region_with
        (first
          | (go_at_call 37; refine (HSE.out).mono ?_; rintro e8 w8 ⟨_, rfl, rfl, rfl⟩)
          | (go_at_call 54; refine (HRE.out).mono ?_; rintro e9 w9 ⟨_, rfl, ao9, cap9, l9, rfl, hs9, hl9, hm9, B9⟩; have d0 := (B9.cell (p := ⟨pb, 0, none⟩) hpl).trans c0; have d1 := (B9.cell (p := ⟨b, off + 1, none⟩) hlt).trans a1; have hBf : Below w.heap.size w w9 := (Below.refl w.heap.size w).drew.trans B9)
          | (go_at_call 39; refine (rcont_is hs9 hl9 (res_yes hm9 HNR.out)).mono ?_; rintro e7 w7 ⟨_, rfl, rfl, rfl⟩))
      all_goals
        go_wp2_with fail
        go_meet
        case rel => exact ⟨rfl, by assumption⟩
    case rest =>
      obtain ⟨rfl, hB⟩ := hcut
      clear HSE HRE c0 a1
      go_wp2_with fail
      refine (HFA.out _ hB).mono ?_
      rintro e w2 ⟨rfl, rfl⟩
      exact ⟨rfl, rfl, hB⟩
end Go.Proofs.YtogcnmjipfllaaaDoor
