/- weather: Text, as callers take it -/
import Derived.Test.YtbkheiilcfhfpaaDoorWeaText
namespace Go.Proofs.YtbkheiilcfhfpaaDoor
open Go.RowKit

theorem text_no (ao : Option Addr) (cap : Nat) (L : List Sp) (w : World) (hA : Sps w ao L) (hl : L.length ≤ 100000) (hv : allB L = false) : Calls Tryd.prog 16 #[.slice ao L.length cap] w fun e w' =>
    e = .returned (.tuple #[.string ⟨#[]⟩, .int .i64 1]) ∧ Below w.heap.size w w' := by
  have HA := hid (fun (w : World) (h : Sps w ao L) => all_any ao cap L w h hl)
  rw [hv] at HA
  generalize L.length = len at *
  go_enter Tryd.func16, Tryd.ntmps16
  go_wp2_with fail
  refine (HA.out _ hA).mono ?_
  rintro e w1 ⟨rfl, hB1⟩
  go_wp2_with fail
  go_ret2
  exact ⟨rfl, hB1⟩
def textR (L : List Sp) : List UInt8 × Int := if allB L = true then (textL L, 0) else ([], 1)
theorem text_any (ao : Option Addr) (cap : Nat) (L : List Sp) (w : World) (hA : Sps w ao L) (hl : L.length ≤ 100000) (hL : Lay w) : Calls Tryd.prog 16 #[.slice ao L.length cap] w fun e w' =>
    e = .returned (.tuple #[.string ⟨(textR L).1.toArray⟩, .int .i64 (textR L).2]) ∧ Below w.heap.size w w' := by
  unfold textR
  by_cases hv : allB L = true
  · rw [if_pos hv]
    have hl2 : L.length ≤ 200 := by
      unfold allB at hv
      simp only [Bool.and_eq_true, decide_eq_true_eq] at hv
      exact hv.1
    exact text_yes ao cap L w hA hl2 hv hL
  · rw [if_neg hv]
    exact text_no ao cap L w hA hl (by simpa using hv)
end Go.Proofs.YtbkheiilcfhfpaaDoor
