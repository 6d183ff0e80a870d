/- retract: the chapter's examples -/
import Derived.Test.YtgkgpfennlkcnaaDoorRetRef
import Derived.Test.YtgkgpfennlkcnaaDoorRetLib
namespace Go.Proofs.YtgkgpfennlkcnaaDoor
open Go.RowKit

def taintM (P : List En) (R : List ByteArray) : List ByteArray := ((P.zip (supM P R)).filter (fun p => !decide (p.1.id ∈ R) && !p.2)).map (fun p => p.1.id)
theorem taintM_is {L : List Ent} {R : List ByteArray} (hv : ValidL L) : taintM (ps L) R = taintL L R := by
  unfold taintM taintL taintB
  rw [supM_is hv]
  unfold ps supL
  rw [List.zip_map', List.filter_map, List.map_map]
  rfl
def sA : ByteArray := ⟨#[97]⟩
def sB : ByteArray := ⟨#[98]⟩
def sC : ByteArray := ⟨#[99]⟩
def sD : ByteArray := ⟨#[100]⟩
def sE : ByteArray := ⟨#[101]⟩
def sF : ByteArray := ⟨#[102]⟩
def sX : ByteArray := ⟨#[120]⟩
def EX : List En := [⟨sA, []⟩, ⟨sB, [sA]⟩, ⟨sC, [sA]⟩, ⟨sD, [sB, sC]⟩, ⟨sE, [sF]⟩, ⟨sF, [sE]⟩]
theorem ex_valid : validC EX = true := by decide +kernel
theorem ex_sup : supM EX [] = [true, true, true, true, false, false] := by decide +kernel
theorem ex_t0 : taintM EX [] = [sE, sF] := by decide +kernel
theorem ex_t1 : taintM EX [sB] = [sE, sF] := by decide +kernel
theorem ex_t2 : taintM EX [sA] = [sB, sC, sD, sE, sF] := by decide +kernel
theorem ex_t3 : taintM EX [sB, sC] = [sD, sE, sF] := by decide +kernel
theorem ex_bD : becM EX sD = ([sA, sB, sD], 0) := by decide +kernel
theorem ex_bA : becM EX sA = ([sA], 0) := by decide +kernel
theorem ex_bE : becM EX sE = ([], 10) := by decide +kernel
theorem ex_bX : becM EX sX = ([], 10) := by decide +kernel
theorem slv_made (w : World) (c : Array Value) (E : TypeId) (h : c.size ≤ 1000) : SlV (w.alloc (.cells c E)) (some ⟨w.heap.size, 0, none⟩) c.toList := by
  refine ⟨by unfold maxLen; simp; omega, fun i x hi => ⟨w.heap.size, 0, rfl, by rw [World.size_alloc]; omega, ?_⟩⟩
  have := (Blk.new w c E).cell (0 + i)
  rw [this]
  simpa using hi
set_option maxHeartbeats 4000000 in
set_option maxRecDepth 100000 in
theorem example_any (w : World) : Calls Tryd.prog 22 #[] w fun e w' => ∃ L ao cap, e = .returned (.slice ao 6 cap) ∧ Ents w' ao L ∧ ps L = EX ∧ Below w.heap.size w w' := by
  go_enter Tryd.func22, Tryd.ntmps22
  go_wp2_with fail
  go_ret
  have h1 := slv_made w #[.string sA] 9 (by decide)
  have b1 := below_alloc w (.cells #[.string sA] 9)
  have z1 : (w.alloc (.cells #[.string sA] 9)).heap.size = w.heap.size + 1 := World.size_alloc _ _
  unfold sA at h1 b1 z1
  generalize w.alloc (.cells #[.string ⟨#[97]⟩] 9) = w1 at *
  have h2 := slv_made w1 #[.string sA] 9 (by decide)
  have b2 := below_alloc w1 (.cells #[.string sA] 9)
  have z2 : (w1.alloc (.cells #[.string sA] 9)).heap.size = w1.heap.size + 1 := World.size_alloc _ _
  unfold sA at h2 b2 z2
  generalize w1.alloc (.cells #[.string ⟨#[97]⟩] 9) = w2 at *
  have h3 := slv_made w2 #[.string sB, .string sC] 9 (by decide)
  have b3 := below_alloc w2 (.cells #[.string sB, .string sC] 9)
  have z3 : (w2.alloc (.cells #[.string sB, .string sC] 9)).heap.size = w2.heap.size + 1 := World.size_alloc _ _
  unfold sB sC at h3 b3 z3
  generalize w2.alloc (.cells #[.string ⟨#[98]⟩, .string ⟨#[99]⟩] 9) = w3 at *
  have h4 := slv_made w3 #[.string sF] 9 (by decide)
  have b4 := below_alloc w3 (.cells #[.string sF] 9)
  have z4 : (w3.alloc (.cells #[.string sF] 9)).heap.size = w3.heap.size + 1 := World.size_alloc _ _
  unfold sF at h4 b4 z4
  generalize w3.alloc (.cells #[.string ⟨#[102]⟩] 9) = w4 at *
  have h5 := slv_made w4 #[.string sE] 9 (by decide)
  have b5 := below_alloc w4 (.cells #[.string sE] 9)
  have z5 : (w4.alloc (.cells #[.string sE] 9)).heap.size = w4.heap.size + 1 := World.size_alloc _ _
  unfold sE at h5 b5 z5
  generalize w4.alloc (.cells #[.string ⟨#[101]⟩] 9) = w5 at *
  rw [z1] at h2 z2
  rw [z2] at h3 z3
  rw [z3] at h4 z4
  rw [z4] at h5 z5
  generalize hL : ([⟨sA, none, [], 0⟩, ⟨sB, some ⟨w.heap.size, 0, none⟩, [sA], 1⟩, ⟨sC, some ⟨w.heap.size + 1, 0, none⟩, [sA], 1⟩, ⟨sD, some ⟨w.heap.size + 1 + 1, 0, none⟩, [sB, sC], 2⟩, ⟨sE, some ⟨w.heap.size + 1 + 1 + 1, 0, none⟩, [sF], 1⟩, ⟨sF, some ⟨w.heap.size + 1 + 1 + 1 + 1, 0, none⟩, [sE], 1⟩] : List Ent) = L
  have h6 := slv_made w5 (entsCells L).toArray 31 (by rw [List.size_toArray, entsCells_len]; subst hL; simp)
  have b6 := below_alloc w5 (.cells (entsCells L).toArray 31)
  rw [z5] at h6
  have e6 : (entsCells L).toArray = #[Value.string { data := #[97] }, Value.slice none 0 0, Value.string { data := #[98] },
          Value.slice (some { block := w.heap.size, off := 0 }) 1 1, Value.string { data := #[99] },
          Value.slice (some { block := w.heap.size + 1, off := 0 }) 1 1, Value.string { data := #[100] },
          Value.slice (some { block := w.heap.size + 1 + 1, off := 0 }) 2 2, Value.string { data := #[101] },
          Value.slice (some { block := w.heap.size + 1 + 1 + 1, off := 0 }) 1 1, Value.string { data := #[102] },
          Value.slice (some { block := w.heap.size + 1 + 1 + 1 + 1, off := 0 }) 1 1] := by subst hL; rfl
  rw [e6] at h6 b6
  refine ⟨L, _, _, rfl, ⟨?_, ?_, ?_⟩, by subst hL; rfl, ?_⟩
  · refine cast ?_ h6
    rw [← e6]
  · have k5 := h5.below b6
    have k4 := (h4.below b5).below b6
    have k3 := ((h3.below b4).below b5).below b6
    have k2 := (((h2.below b3).below b4).below b5).below b6
    have k1 := ((((h1.below b2).below b3).below b4).below b5).below b6
    subst hL
    intro e he
    simp only [List.mem_cons, List.not_mem_nil, or_false] at he
    rcases he with rfl | rfl | rfl | rfl | rfl | rfl
    · exact ⟨by simp, by simp⟩
    · exact k1
    · exact k2
    · exact k3
    · exact k4
    · exact k5
  · subst hL
    intro e he
    simp only [List.mem_cons, List.not_mem_nil, or_false] at he
    unfold maxLen
    rcases he with rfl | rfl | rfl | rfl | rfl | rfl <;> simp
  · exact bthen (bthen (bthen (bthen (bthen b1 b2) b3) b4) b5) b6
end Go.Proofs.YtgkgpfennlkcnaaDoor
