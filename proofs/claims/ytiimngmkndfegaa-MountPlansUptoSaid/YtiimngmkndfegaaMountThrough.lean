import Derived.Test.YtiimngmkndfegaaMountHead
import Derived.Test.YtiimngmkndfegaaLib2
namespace Go.Proofs.Ytiimngmkndfegaa
open Go.RowKit

def thr (l : List Int) : List Int := l.map (· % 32)
theorem thr_bd (l : List Int) : ∀ c ∈ thr l, 0 ≤ c ∧ c < 32 := by
  intro c hc
  obtain ⟨x, _, rfl⟩ := List.mem_map.1 hc
  omega
theorem SlI.toV {w : World} {ao : Option Addr} {l : List Int} (h : SlI w ao l) : SlV w ao (l.map (Value.int .i64)) :=
  ⟨by simpa using h.len, fun i x hi => by
    simp only [List.getElem?_map, Option.map_eq_some_iff] at hi
    obtain ⟨y, hy, rfl⟩ := hi
    exact h.cell i y hy⟩
theorem Mine.sl2 {B : Nat} {w0 w : World} {E : TypeId} {v : Value} {l : List Int} (h : Mine B w0 w E v (l.map (Value.int .i64))) : ∃ ao cap, v = .slice ao l.length cap ∧ SlI w ao l ∧ (ao = none → cap = 0) := by
  obtain ⟨ao, cap, hv, hs⟩ := h.sl
  refine ⟨ao, cap, hv, hs, fun e => ?_⟩
  subst e
  rcases h.own.2 with ⟨e, _⟩ | ⟨g, cap', cur, e, _⟩
  · rw [hv] at e; simp at e; exact e.2
  · rw [hv] at e; simp at e
theorem Mine.slI {B : Nat} {w0 w : World} {E : TypeId} {ao : Option Addr} {n cap : Nat} {l : List Int} {vs : List Value} (h : Mine B w0 w E (.slice ao n cap) vs) (hv : vs = l.map (Value.int .i64)) : SlI w ao l := by
  subst hv
  obtain ⟨ao', cap', hv, hs⟩ := h.sl
  simp only [Value.slice.injEq] at hv
  obtain ⟨rfl, _, _⟩ := hv
  exact hs
theorem thr_snoc (l : List Int) (k : Nat) (x : Int) (h : l[k]? = some x) : thr (l.take (k + 1)) = thr (l.take k) ++ [x % 32] := by
  rw [take_snoc' l k x h]; simp [thr]

set_option maxHeartbeats 400000 in
theorem through_any (ao : Option Addr) (cap : Nat) (l : List Int) (w : World) (hs : SlV w ao (l.map (Value.int .u8))) (hb : ∀ x ∈ l, 0 ≤ x ∧ x ≤ 255) (hn : l.length ≤ 1048576) :
    Calls Try.prog 19 #[.slice ao l.length cap] w fun e w' => ∃ ao' cap', e = .returned (.slice ao' l.length cap') ∧ SlI w' ao' (thr l) ∧ (ao' = none → cap' = 0) ∧ Below w.heap.size w w' := by
  have Hb := hid hb
  clear hb
  go_enter Try.func19, Try.ntmps19
  go_wp2
  go_loopw [3, 4] (fun out s4 wr => ∃ k : Nat, k ≤ l.length ∧ s4 = .int .i64 k ∧ Mine w.heap.size w wr 3 out ((thr (l.take k)).map (Value.int .i64))) (fun _ s4 _ => l.length - (intOf s4).toNat)
  case atStart => exact ⟨0, by omega, rfl, Mine.start (Below.refl _ _) (Nat.le_refl _)⟩
  case round =>
    obtain ⟨k, hk, rfl, hm⟩ := hrel
    by_cases hlt : k < l.length
    · obtain ⟨x, hx⟩ : ∃ x, l[k]? = some x := ⟨_, List.getElem?_eq_getElem hlt⟩
      obtain ⟨b, off, rfl, hb, hxc⟩ := (hs.below hm.below).cell k (.int .u8 x) (by simp [hx])
      obtain ⟨x0, x1⟩ := Hb.out x (List.mem_of_getElem? hx)
      have HT := hid (thr_snoc l k x hx)
      have hI1 : (k : Int) < (l.length : Int) := by omega
      have hlen : (thr (l.take k)).length = k := by simp [thr]; omega
      have HL := hid hlen
      clear hx hlen
      go_wp2_with (at_builtin; refine wpl_app1 rfl _ _ 22 rfl 3 _ _ Try.underlying22 Try.info3 rfl _ _ _ _ hm rfl _ rfl rfl (by unfold maxLen; simp only [List.length_map, HL.out]; omega) (by simp only [List.length_map, HL.out]; omega) ?_; intro g1 cap1 w1 hm1 hg1 hB1 hat1)
      go_roundw
      case rel => exact ⟨k + 1, by omega, by go_num, by rw [HT.out]; simpa using hm1⟩
      case measure => simp [intOf] <;> omega
    · obtain rfl : k = l.length := by omega
      rw [List.take_length] at hm
      obtain ⟨ao', cap', rfl, hsl, hnone⟩ := hm.sl2
      have HB := hid hm.below
      have HN := hid hnone
      clear hnone
      clear hm
      go_wp2
      go_ret
      exact ⟨ao', cap', by simp [thr], hsl, HN.out, HB.out⟩

/-- Plan through columns that exist -/
theorem plan_thr (at0 : Int) (ao : Option Addr) (cap n : Nat) (cs : List Int) (w : World) (hcs : SlI w ao cs) (ha : -48 ≤ at0 ∧ at0 ≤ 48) (hn : cs.length = n) (hc : ∀ c ∈ cs, 0 ≤ c ∧ c < 32) (hl : n ≤ 40) :
    Calls Try.prog 13 #[.int .i64 at0, .slice ao n cap] w fun e w' => ∃ ao' cap', e = .returned (.tuple #[.slice ao' n cap', .int .i64 (lenF cs at0), .int .i64 0]) ∧ SlI w' ao' (planL at0 cs) ∧ Below w.heap.size w w' := by
  subst hn
  exact plan_yes at0 ao cap cs w hcs ((planOk_iff _ _).2 ⟨ha, hl, hc⟩)
theorem plan_long (at0 : Int) (ao : Option Addr) (cap n : Nat) (cs : List Int) (w : World) (hcs : SlI w ao cs) (hn : cs.length = n) (hl : 40 < n) :
    Calls Try.prog 13 #[.int .i64 at0, .slice ao n cap] w fun e w' => e = .returned (.tuple #[.slice none 0 0, .int .i64 0, .int .i64 1]) ∧ Below w.heap.size w w' := by
  subst hn
  refine plan_not at0 ao cap cs w hcs ?_
  cases h : planOk at0 cs with
  | false => rfl
  | true => have := ((planOk_iff _ _).1 h).2.1; omega
end Go.Proofs.Ytiimngmkndfegaa
