/- Go's library, as my walks take it: strconv.Itoa, strconv.Atoi, under what the listed variables hold -/
import Derived.Test.YtogcnmjipfllaaaDoorLib
import Derived.Test.YtogcnmjipfllaaaDoorShelf
import Derived.Lib.LaidTab
import Derived.Lib.AtoiErrMem
import Derived.Lib.AppendIntMem
import Derived.Lib.ItoaLen
import Derived.Lib.AtoiAllCases
namespace Go.Proofs.YtogcnmjipfllaaaDoor
open Go.RowKit

theorem var_below {P : Program} {w w' : World} {n : String} {cs : Array Value} (h : w.var? P n = some cs) (hB : Below w.heap.size w w') : w'.var? P n = some cs := by
  unfold World.var? at h ⊢
  cases hg : P.globalNamed n with
  | none => rw [hg] at h; simp at h
  | some g =>
    rw [hg] at h
    simp only [Option.bind_some] at h ⊢
    have hlt : g < w.heap.size := by
      rcases Nat.lt_or_ge g w.heap.size with hl | hl
      · exact hl
      · rw [Array.getElem?_eq_none hl] at h; simp at h
    rw [hB.block g hlt]
    exact h

/-- what the listed variables of the library hold -/
structure Lay (w : World) : Prop where
  tab : Lib.TabIs Tryd.prog w "internal/strconv.uint64pow10" .u64 Lib.pow10Tab
  syn : ∃ tp p, w.var? Tryd.prog "strconv.ErrSyntax" = some #[.iface tp p]
  rng : ∃ tp p, w.var? Tryd.prog "strconv.ErrRange" = some #[.iface tp p]
theorem Lay.below {w w' : World} (h : Lay w) (hB : Below w.heap.size w w') : Lay w' := by
  obtain ⟨h1, ⟨tp, p, h2⟩, tq, q, h3⟩ := h
  refine ⟨?_, ⟨tp, p, var_below h2 hB⟩, tq, q, var_below h3 hB⟩
  unfold Lib.TabIs at h1 ⊢
  exact var_below h1 hB

def i64B (n : Int) : Prop := -9223372036854775808 ≤ n ∧ n ≤ 9223372036854775807
theorem itoa_any (n : Int) (w : World) (hn : i64B n) (hL : Lay w) :
    Calls Tryd.prog 28 #[.int .i64 n] w fun e w' => e = .returned (.string ⟨(Lib.itoa n).toArray⟩) ∧ Below w.heap.size w w' := by
  refine (Tryd.strconv_Itoa n hn.1 hn.2 w hL.tab).mono ?_
  rintro e w' ⟨rfl, k, os, rfl⟩
  exact ⟨rfl, Lib.below_grow _ w (Nat.le_refl _) k os⟩

def atoiV (l : List UInt8) : Int := match Lib.atoiAll l with
  | .ok v => v
  | .«syntax» => 0
  | .range => Lib.atoiSat l
def atoiB (l : List UInt8) : Bool := match Lib.atoiAll l with
  | .ok _ => true
  | .«syntax» => false
  | .range => false
theorem atoiV_bd (l : List UInt8) : i64B (atoiV l) := by
  unfold atoiV i64B
  cases h : Lib.atoiAll l with
  | ok v => exact Lib.atoiAll_bounds h
  | «syntax» => show -9223372036854775808 ≤ (0 : Int) ∧ (0 : Int) ≤ 9223372036854775807; omega
  | range => exact Lib.atoiSat_bounds l
theorem atoi_any (s : ByteArray) (w : World) (hs : s.size ≤ 281474976710656) (hL : Lay w) :
    Calls Tryd.prog 51 #[.string s] w fun e w' => ∃ ev, e = .returned (.tuple #[.int .i64 (atoiV s.data.toList), ev]) ∧ Below w.heap.size w w' ∧
      ((atoiB s.data.toList = true ∧ ev = .nilIface) ∨ (atoiB s.data.toList = false ∧ ∃ t p, ev = .iface t p)) := by
  unfold atoiV atoiB
  cases h : Lib.atoiAll s.data.toList with
  | ok v =>
    refine (Tryd.strconv_Atoi_ok s (by omega) v h w).mono ?_
    rintro e w' ⟨rfl, hw⟩
    refine ⟨_, rfl, ?_, .inl ⟨rfl, rfl⟩⟩
    rcases hw with rfl | ⟨t, rfl⟩
    · exact Below.refl _ _
    · exact Lib.bytesWorld_below _ _ _
  | «syntax» =>
    obtain ⟨tp, p, hv⟩ := hL.syn
    refine (Tryd.strconv_Atoi_syntax_var s hs h tp p w hv).mono ?_
    rintro e w' ⟨N, rfl, _, _, hB⟩
    exact ⟨_, rfl, hB, .inr ⟨rfl, _, _, rfl⟩⟩
  | range =>
    obtain ⟨tp, p, hv⟩ := hL.rng
    refine (Tryd.strconv_Atoi_range_var s hs h tp p w hv).mono ?_
    rintro e w' ⟨N, rfl, _, _, hB⟩
    exact ⟨_, rfl, hB, .inr ⟨rfl, _, _, rfl⟩⟩
end Go.Proofs.YtogcnmjipfllaaaDoor
