/- unit: Parse -/
import Derived.Test.YtmfoincmjpogmaaDoorUnitPure
namespace Go.Proofs.YtmfoincmjpogmaaDoor
open Go.RowKit

/-- all that the unit's walks lean on -/
structure LayU (w : World) : Prop where
  lay : Lay w
  names : Names w
  asc : Lib.TabIs Tryd.prog w "strings.asciiSpace" .u8 Lib.asciiSpaceTab
  white : Lib.WhiteTab 2 w
theorem LayU.below {w w' : World} (h : LayU w) (hB : Below w.heap.size w w') : LayU w' := by
  refine ⟨h.lay.below hB, h.names.below hB, ?_, WhiteTab_below h.white hB⟩
  have := h.asc
  unfold Lib.TabIs at this ⊢
  exact var_below this hB
theorem layU_of (W : World) (h : laidMetH Tryd.prog laid5 W) : LayU W := ⟨lay_of W h, names_of W h, (space_of W h).1, (space_of W h).2⟩

theorem str_ne {s t : ByteArray} (h : ¬ s = t) : (s.toList == t.toList) = false := by
  rw [ByteArray.toList_eq, ByteArray.toList_eq]
  simpa using fun e => h (str_ext (by simpa using e))

theorem fields_any (s : ByteArray) (w : World) (hs : s.size ≤ 100000) (hL : LayU w) : Calls Tryd.prog 27 #[.string s] w fun e w' => ∃ A, e = .returned (.slice (some ⟨A, 0, none⟩) (Lib.fieldsD s.data.toList).length (Lib.fieldsD s.data.toList).length) ∧ w.heap.size ≤ A ∧
    (∀ j x, (Lib.fieldsD s.data.toList)[j]? = some x → w'.cell? ⟨A, j, none⟩ = some (.string ⟨x.toArray⟩)) ∧ A < w'.heap.size ∧ Below w.heap.size w w' ∧ (Lib.fieldsD s.data.toList).length ≤ maxLen := by
  refine (Tryd.strings_Fields_any s w (by omega) hL.asc hL.white).mono ?_
  rintro e w' ⟨A, rfl, hA, hrow, hB⟩
  have hm : Mine w.heap.size w w' 9 (.slice (some ⟨A, 0, none⟩) (Lib.fieldsD s.data.toList).length (Lib.fieldsD s.data.toList).length) ((Lib.fieldsD s.data.toList).map fun x => Value.string ⟨x.toArray⟩) := ⟨by simpa using hrow, hB, hB.size⟩
  have hlt := hrow.lt A rfl
  obtain ⟨ao, cap, e, hsl, -⟩ := hm.slv
  simp only [Value.slice.injEq] at e
  refine ⟨A, rfl, hA, fun j x hj => ?_, hlt.2, hB, by simpa using hsl.len⟩
  obtain ⟨b, off, e2, -, hc⟩ := hsl.cell j (.string ⟨x.toArray⟩) (by simp [hj])
  rw [← e.1] at e2
  simp only [Option.some.injEq, Addr.mk.injEq, and_true] at e2
  obtain ⟨rfl, rfl⟩ := e2
  rw [← hc]
  simp

theorem stepU_false (u : U) (f : List UInt8) (h1 : hasH f = true) (h2 : atoiB (cutH f).2 = false) : stepU u f = u := by
  unfold stepU; rw [h1, h2]; simp
theorem nmL (nm : ByteArray) (l : List UInt8) : (l = nm.data.toList) ↔ (nm = ⟨l.toArray⟩) := by
  constructor
  · rintro rfl; simp
  · rintro rfl; simp
/-- what the three rounds lay -/
def cellsP (b : Bool) (k : Int) (name : ByteArray) (u : U) (i : Nat) : List Value :=
  [.int .i64 (if (nmC = name ∧ b = true) ∧ 0 < i then k else u.a), .int .i64 (if (nmE = name ∧ b = true) ∧ 1 < i then k else u.b), .int .i64 (if (nmS = name ∧ b = true) ∧ 2 < i then k else u.c)]
theorem cellsP_zero (b : Bool) (k : Int) (name : ByteArray) (u : U) : cellsP b k name u 0 = uCells u := by simp [cellsP, uCells]
theorem cellsP_three (f : List UInt8) (u : U) : cellsP (!hasH f || atoiB (cutH f).2) (if hasH f = true then atoiV (cutH f).2 else 1) ⟨(cutH f).1.toArray⟩ u 3 = uCells (stepU u f) := by
  unfold cellsP stepU uCells
  simp only [nmL, show (0 : Nat) < 3 by decide, show (1 : Nat) < 3 by decide, show (2 : Nat) < 3 by decide, and_true]
theorem cellsP_yes0 {b : Bool} {k : Int} {name : ByteArray} {u : U} (h : nmC = name ∧ b = true) : (cellsP b k name u 0).set 0 (.int .i64 k) = cellsP b k name u 1 := by simp [cellsP, h]
theorem cellsP_yes1 {b : Bool} {k : Int} {name : ByteArray} {u : U} (h : nmE = name ∧ b = true) : (cellsP b k name u 1).set 1 (.int .i64 k) = cellsP b k name u 2 := by simp [cellsP, h]
theorem cellsP_yes2 {b : Bool} {k : Int} {name : ByteArray} {u : U} (h : nmS = name ∧ b = true) : (cellsP b k name u 2).set 2 (.int .i64 k) = cellsP b k name u 3 := by simp [cellsP, h]
theorem cellsP_no0 {b : Bool} {k : Int} {name : ByteArray} {u : U} (h : ¬ (nmC = name ∧ b = true)) : cellsP b k name u 0 = cellsP b k name u 1 := by simp [cellsP, h]
theorem cellsP_no1 {b : Bool} {k : Int} {name : ByteArray} {u : U} (h : ¬ (nmE = name ∧ b = true)) : cellsP b k name u 1 = cellsP b k name u 2 := by simp [cellsP, h]
theorem cellsP_no2 {b : Bool} {k : Int} {name : ByteArray} {u : U} (h : ¬ (nmS = name ∧ b = true)) : cellsP b k name u 2 = cellsP b k name u 3 := by simp [cellsP, h]
end Go.Proofs.YtmfoincmjpogmaaDoor
