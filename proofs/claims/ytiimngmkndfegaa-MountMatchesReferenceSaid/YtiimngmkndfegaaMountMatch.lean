/- mount: the statement MatchesReference -/
import Derived.Test.YtiimngmkndfegaaMountRef3
namespace Go.Proofs.Ytiimngmkndfegaa
open Go.RowKit

def rL (c : Int) : List Int := if 0 ≤ c ∧ c < 32 then reachL c else []
def rE (c : Int) : Int := if 0 ≤ c ∧ c < 32 then 0 else 1
def pL (a : Int) (cs : List Int) : List Int := if planOk a cs = true then planL a cs else []
def pD (a : Int) (cs : List Int) : Int := if planOk a cs = true then lenF cs a else 0
def pE (a : Int) (cs : List Int) : Int := if planOk a cs = true then 0 else 1
theorem xreach (c : Int) (w : World) : Calls Try.prog 9 #[.int .i64 c] w fun e w' => ∃ ao cap, e = .returned (.tuple #[.slice ao (rL c).length cap, .int .i64 (rE c)]) ∧ SlI w' ao (rL c) ∧ Below w.heap.size w w' := by
  unfold rL rE
  by_cases h : 0 ≤ c ∧ c < 32
  · rw [if_pos h, if_pos h]; exact reach_yes c _ w h.1 h.2 rfl
  · rw [if_neg h, if_neg h]
    refine (reach_no c w h).mono ?_
    rintro e w' ⟨rfl, rfl⟩
    exact ⟨none, 0, rfl, SlI_nil _ _, Below.refl _ _⟩
theorem yreach (c : Int) (w : World) : Calls Try.prog 10 #[.int .i64 c] w fun e w' => ∃ ao cap, e = .returned (.tuple #[.slice ao (rL c).length cap, .int .i64 (rE c)]) ∧ SlI w' ao (rL c) ∧ Below w.heap.size w w' := by
  unfold rL rE
  by_cases h : 0 ≤ c ∧ c < 32
  · rw [if_pos h, if_pos h]
    refine (rreach_any c w h.1 h.2).mono ?_
    rintro e w' ⟨v, rfl, hm⟩
    obtain ⟨ao, cap, rfl, hs⟩ := hm.sl
    exact ⟨ao, cap, rfl, hs, hm.below⟩
  · rw [if_neg h, if_neg h]
    refine (rreach_no c w h).mono ?_
    rintro e w' ⟨rfl, rfl⟩
    exact ⟨none, 0, rfl, SlI_nil _ _, Below.refl _ _⟩
def mV (a c : Int) : Int := (pL a [c]).headD 0
theorem xmove (a c : Int) (w : World) : Calls Try.prog 11 #[.int .i64 a, .int .i64 c] w fun e w' => e = .returned (.tuple #[.int .i64 (mV a c), .int .i64 (pD a [c]), .int .i64 (pE a [c])]) ∧ Below w.heap.size w w' := by
  unfold mV pL pD pE
  cases h : planOk a [c]
  · exact move_not a c w h
  · exact move_yes a c w h
theorem ymove (a c : Int) (w : World) : Calls Try.prog 12 #[.int .i64 a, .int .i64 c] w fun e w' => e = .returned (.tuple #[.int .i64 (mV a c), .int .i64 (pD a [c]), .int .i64 (pE a [c])]) ∧ Below w.heap.size w w' := by
  unfold mV pL pD pE
  cases h : planOk a [c]
  · exact rmove_not a c w h
  · exact rmove_yes a c w h
theorem pL_len (a : Int) (cs : List Int) (h : planOk a cs = true) : (pL a cs).length = cs.length := by
  obtain ⟨h1, h2, h3⟩ := (planOk_iff _ _).1 h
  rw [pL, if_pos h, planL_len cs a h1 h3 (by omega)]
theorem xplan (a : Int) (ao : Option Addr) (cap : Nat) (cs : List Int) (w : World) (hcs : SlI w ao cs) :
    Calls Try.prog 13 #[.int .i64 a, .slice ao cs.length cap] w fun e w' => ∃ ao' cap', e = .returned (.tuple #[.slice ao' (pL a cs).length cap', .int .i64 (pD a cs), .int .i64 (pE a cs)]) ∧ SlI w' ao' (pL a cs) ∧ Below w.heap.size w w' := by
  cases h : planOk a cs
  · refine (plan_not a ao cap cs w hcs h).mono ?_
    rintro e w' ⟨rfl, hB⟩
    have e1 : pL a cs = [] := by rw [pL, h]; rfl
    rw [e1]
    exact ⟨none, 0, by simp [pD, pE, h], SlI_nil _ _, hB⟩
  · refine (plan_yes a ao cap cs w hcs h).mono ?_
    rintro e w' ⟨ao', cap', rfl, hs, hB⟩
    rw [pL_len a cs h]
    exact ⟨ao', cap', by simp [pD, pE, h], by rw [pL, if_pos h]; exact hs, hB⟩
theorem yplan (a : Int) (ao : Option Addr) (cap : Nat) (cs : List Int) (w : World) (hcs : SlI w ao cs) :
    Calls Try.prog 14 #[.int .i64 a, .slice ao cs.length cap] w fun e w' => ∃ ao' cap', e = .returned (.tuple #[.slice ao' (pL a cs).length cap', .int .i64 (pD a cs), .int .i64 (pE a cs)]) ∧ SlI w' ao' (pL a cs) ∧ Below w.heap.size w w' := by
  cases h : planOk a cs
  · refine (rplan_not a ao cap cs w hcs h).mono ?_
    rintro e w' ⟨rfl, hB⟩
    have e1 : pL a cs = [] := by rw [pL, h]; rfl
    rw [e1]
    exact ⟨none, 0, by simp [pD, pE, h], SlI_nil _ _, hB⟩
  · refine (rplan_yes a ao cap cs w hcs h).mono ?_
    rintro e w' ⟨ao', cap', rfl, hs, hB⟩
    rw [pL_len a cs h]
    exact ⟨ao', cap', by simp [pD, pE, h], by rw [pL, if_pos h]; exact hs, hB⟩

set_option maxHeartbeats 1000000 in
set_option maxRecDepth 100000 in
theorem match_walk (a c : Int) (ao : Option Addr) (cap : Nat) (cs : List Int) (w : World) (hcs : SlI w ao cs) :
    Calls Try.prog 3 #[.int .i64 a, .int .i64 c, .slice ao cs.length cap] w fun e w' => e = .returned (.bool true) ∧ Below w.heap.size w w' := by
  have X1 := hid (fun w => xreach c w)
  have Y1 := hid (fun w => yreach c w)
  have X2 := hid (fun w => xmove a c w)
  have Y2 := hid (fun w => ymove a c w)
  have X3 := hid (fun w h => xplan a ao cap cs w h)
  have Y3 := hid (fun w h => yplan a ao cap cs w h)
  generalize rL c = l1 at *
  generalize rE c = e1 at *
  generalize mV a c = v2 at *
  generalize pD a [c] = d2 at *
  generalize pE a [c] = e2 at *
  generalize pL a cs = l3 at *
  generalize pD a cs = d3 at *
  generalize pE a cs = e3 at *
  by_cases hl : 60 < (cs.length : Int)
  · go_enter Try.func3, Try.ntmps3
    go_wp2_with fail
    refine (head_any _).mono ?_
    rintro e w1 ⟨rfl, hB1⟩
    go_wp2_with fail
    go_ret
    exact ⟨rfl, hB1⟩
  · go_enter Try.func3, Try.ntmps3
    go_wp2_with fail
    refine (head_any _).mono ?_
    rintro e w1 ⟨rfl, hB1⟩
    go_wp2_with fail
    refine (X1.out _).mono ?_
    rintro e w2 ⟨ao2, cap2, rfl, hs2, hB2⟩
    go_wp2_with fail
    refine (Y1.out _).mono ?_
    rintro e w3 ⟨ao3, cap3, rfl, hs3, hB3⟩
    go_wp2_with fail
    refine (X2.out _).mono ?_
    rintro e w4 ⟨rfl, hB4⟩
    go_wp2_with fail
    refine (Y2.out _).mono ?_
    rintro e w5 ⟨rfl, hB5⟩
    have b5 := bthen hB1 (bthen hB2 (bthen hB3 (bthen hB4 hB5)))
    go_wp2_with fail
    refine (X3.out _ (hcs.below b5)).mono ?_
    rintro e w6 ⟨ao6, cap6, rfl, hs6, hB6⟩
    go_wp2_with fail
    refine (Y3.out _ ((hcs.below b5).below hB6)).mono ?_
    rintro e w7 ⟨ao7, cap7, rfl, hs7, hB7⟩
    go_wp2_with fail
    refine (ints_eq _ _ _ _ _ _ l1 l1 _ ((((((hs2.below hB3).below hB4).below hB5).below hB6).below hB7)) ((((hs3.below hB4).below hB5).below hB6).below hB7) rfl rfl rfl).mono ?_
    rintro e w8 ⟨rfl, hB8⟩
    go_wp2_with fail
    refine (ints_eq _ _ _ _ _ _ l3 l3 _ ((hs6.below hB7).below hB8) (hs7.below hB8) rfl rfl rfl).mono ?_
    rintro e w9 ⟨rfl, hB9⟩
    go_wp2_with fail
    go_ret
    exact ⟨ret_bool (by first | rfl | (simp [*])), bthen b5 (bthen hB6 (bthen hB7 (bthen hB8 hB9)))⟩

theorem IsRow.sli {w : World} {a : Option Addr} {len cap : Nat} {zs : List Int} (h : IsRow .i64 w a len cap zs) : ∃ l : List Int, l.length = len ∧ SlI w a l := by
  obtain ⟨l, h1, h2, _, _⟩ := h.sl
  refine ⟨l, h1, by have := h2.len; simpa using this, fun i x hi => h2.cell i _ (by simp [hi])⟩
theorem match_fin (a c : Int) (ao : Option Addr) (len cap : Nat) (zs : List Int) (w : World) (_h0 : (Lit.int .i64 a).wf = true) (_h1 : (Lit.int .i64 c).wf = true) (h2 : IsRow .i64 w ao len cap zs) :
    Calls Try.prog 3 #[.int .i64 a, .int .i64 c, .slice ao len cap] w fun e w' => e = .returned (.bool true) ∧ Below w.heap.size w w' := by
  obtain ⟨l, rfl, hs⟩ := h2.sli
  exact match_walk a c ao cap l w hs
end Go.Proofs.Ytiimngmkndfegaa
