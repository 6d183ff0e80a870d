/- weather: the closures that say where a kind's numbers are -/
import Derived.Test.YtbkheiilcfhfpaaDoorWeaPur
import Derived.RegionTactic
import Derived.BigRegion
namespace Go.Proofs.YtbkheiilcfhfpaaDoor
open Go.RowKit

def fptr (sb : Nat) (o : Nat) : Value := .pointer (some ⟨sb, o, none⟩)
/-- a slice of pointers into the spell -/
def NumSt (w0 w : World) (v : Value) (sb : Nat) (os : List Nat) : Prop := ∃ ao, v = .slice ao os.length os.length ∧ SlV w ao (os.map (fptr sb)) ∧ ∀ b off, ao = some ⟨b, off, none⟩ → w0.heap.size ≤ b
theorem blkN_slv {w : World} {b : Nat} {T : TypeId} {L : List Value} (h : Blk w b T L) (hl : L.length ≤ maxLen) : SlV w (some ⟨b, 0, none⟩) L :=
  ⟨hl, fun i x hi => ⟨b, 0, rfl, h.lt, by rw [Nat.zero_add, h.cell]; exact hi⟩⟩
theorem num1 (sb : Nat) (w : World) : Calls Tryd.prog 45 #[.pointer (some ⟨sb, 0, none⟩)] w fun e w' => ∃ v, e = .returned v ∧ NumSt w w' v sb [1, 2] ∧ Below w.heap.size w w' := by
  go_enter Tryd.func45, Tryd.ntmps45
  go_wp2_with fail
  go_region
  go_wp2_with fail
  go_ret
  exact ⟨_, rfl, ⟨_, rfl, blkN_slv (Blk.new w _ _).drew (by simp [maxLen]), fun _ _ h => by cases h; exact Nat.le_refl _⟩, (below_alloc w _).drew⟩
theorem num3 (sb : Nat) (w : World) : Calls Tryd.prog 47 #[.pointer (some ⟨sb, 0, none⟩)] w fun e w' => ∃ v, e = .returned v ∧ NumSt w w' v sb [2] ∧ Below w.heap.size w w' := by
  go_enter Tryd.func47, Tryd.ntmps47
  go_wp2_with fail
  go_ret
  exact ⟨_, rfl, ⟨_, rfl, blkN_slv (Blk.new w _ _) (by simp [maxLen]), fun _ _ h => by cases h; exact Nat.le_refl _⟩, below_alloc w _⟩
theorem num5 (sb : Nat) (w : World) : Calls Tryd.prog 49 #[.pointer (some ⟨sb, 0, none⟩)] w fun e w' => ∃ v, e = .returned v ∧ NumSt w w' v sb [] ∧ Below w.heap.size w w' := by
  go_enter Tryd.func49, Tryd.ntmps49
  go_wp2_with fail
  go_ret
  exact ⟨_, rfl, ⟨_, rfl, ⟨by simp, by simp⟩, fun _ _ h => by cases h⟩, Below.refl _ w⟩
def numK (k : Int) : Nat := if k = 1 then 45 else if k = 2 then 47 else 49
theorem num_any (k : Int) (hk : isK k = true) (sb : Nat) (w : World) : Calls Tryd.prog (kA k) #[.pointer (some ⟨sb, 0, none⟩)] w fun e w' => ∃ v, e = .returned v ∧ NumSt w w' v sb (offsK k) ∧ Below w.heap.size w w' := by
  rcases isK_iff.1 hk with rfl | rfl | rfl
  · exact num1 sb w
  · exact num3 sb w
  · exact num5 sb w
end Go.Proofs.YtbkheiilcfhfpaaDoor
