/- weather: the law's comparing of spells -/
import Derived.Test.YtbkheiilcfhfpaaDoorWeaAll
import Derived.Test.YtbkheiilcfhfpaaDoorLibQ
namespace Go.Proofs.YtbkheiilcfhfpaaDoor
open Go.RowKit

set_option maxHeartbeats 2000000 in
set_option maxRecDepth 100000 in
theorem sps_same (ao bo : Option Addr) (ca cb : Nat) (L : List Sp) (w : World) (hA : Sps w ao L) (hB : Sps w bo L) (hl : L.length ≤ 100000) :
    Calls Tryd.prog 21 #[.slice ao L.length ca, .slice bo L.length cb] w fun e w' => e = .returned (.bool true) ∧ Below w.heap.size w w' := by
  generalize hn : L.length = len at *
  go_enter Tryd.func21, Tryd.ntmps21
  go_wp2_with fail
  go_loopw [5] (fun s5 wr => ∃ k : Nat, s5 = .int .i64 k ∧ k ≤ len ∧ Below w.heap.size w wr) (fun s5 _ => len - (intOf s5).toNat)
  case atStart => exact ⟨0, rfl, by omega, Below.refl _ _⟩
  case round =>
    obtain ⟨k, rfl, hk, hBw⟩ := hrel
    by_cases hkl : k < len
    · obtain ⟨s, hs⟩ : ∃ t, L[k]? = some t := ⟨_, List.getElem?_eq_getElem (by omega)⟩
      obtain ⟨b, off, ea, hb, a0, a1, a2, a3, a4⟩ := (hA.below hBw).at hs
      obtain ⟨d, doff, eb, hd, d0, d1, d2, d3, d4⟩ := (hB.below hBw).at hs
      subst ea eb
      obtain ⟨sk, sq, sn, sa, sb⟩ := s
      simp only at a0 a1 a2 a3 a4 d0 d1 d2 d3 d4
      clear hb hd hA hB hs hn
      go_wp2_with fail
      refine wp_region_quiet_all (by kernel_rfl) (by kernel_rfl) ?_
      repeat (go_big_quiet_step (fail))
      refine wpQuiet_end ?_
      go_wp2_with fail
      go_roundw
      case rel => exact ⟨k + 1, by go_num, by omega, hBw.drew⟩
      case measure => simp [intOf]; omega
    · obtain rfl : k = len := by omega
      clear hn
      go_wp2_with fail
      go_ret
      exact ⟨ret_bool (by first | rfl | simp), hBw⟩
end Go.Proofs.YtbkheiilcfhfpaaDoor
