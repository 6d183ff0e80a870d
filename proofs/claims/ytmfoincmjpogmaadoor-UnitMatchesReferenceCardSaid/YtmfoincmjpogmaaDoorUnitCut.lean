/- unit: a factor cut at its first circumflex -/
import Derived.Test.YtmfoincmjpogmaaDoorUnitNames
namespace Go.Proofs.YtmfoincmjpogmaaDoor
open Go.RowKit

def hatS : ByteArray := ⟨#[94]⟩
theorem str_ext {s t : ByteArray} (h : s.data.toList = t.data.toList) : s = t := by
  cases s; cases t; congr 1; exact Array.toList_inj.1 h
theorem take_str (s : ByteArray) (i : Nat) : s.extract 0 i = ⟨(s.data.toList.take i).toArray⟩ := by
  apply str_ext; simp [ByteArray.data_extract]
theorem drop_str (s : ByteArray) (i : Nat) : s.extract i s.size = ⟨(s.data.toList.drop i).toArray⟩ := by
  apply str_ext
  simp only [ByteArray.data_extract, Array.toList_extract, List.extract_eq_take_drop]
  rw [List.take_of_length_le]
  have : s.data.toList.length = s.size := Array.length_toList
  rw [List.length_drop]; omega
/-- what stands ahead of the first circumflex, and behind it; is there one? -/
def cutH (l : List UInt8) : List UInt8 × List UInt8 := if 0 ≤ Lib.indexByte l 94 then (l.take (Lib.indexByte l 94).toNat, l.drop ((Lib.indexByte l 94).toNat + 1)) else (l, [])
def hasH (l : List UInt8) : Bool := decide (0 ≤ Lib.indexByte l 94)

theorem idx_lt (l : List UInt8) (c : UInt8) : Lib.indexByte l c < (l.length : Int) ∧ -1 ≤ Lib.indexByte l c := by
  have h1 := Lib.indexByte_ge l c
  refine ⟨?_, h1⟩
  rcases Int.lt_or_le (Lib.indexByte l c) 0 with h | h
  · omega
  · obtain ⟨o, ho⟩ : ∃ o : Nat, Lib.indexByte l c = (o : Int) := ⟨(Lib.indexByte l c).toNat, by omega⟩
    have := (List.getElem?_eq_some_iff.1 (Lib.indexByte_some ho).1).1
    omega
theorem slcut_any (s : ByteArray) (w : World) (hs : s.size ≤ 1000000) : Calls Tryd.prog 37 #[.string s, .string ⟨#[94]⟩] w fun e w' =>
    e = .returned (.tuple #[.string ⟨(cutH s.data.toList).1.toArray⟩, .string ⟨(cutH s.data.toList).2.toArray⟩, .bool (hasH s.data.toList)]) ∧ Below w.heap.size w w' := by
  obtain ⟨i, hi⟩ : ∃ i, Lib.indexByte s.data.toList 94 = i := ⟨_, rfl⟩
  have hix := Tryd.stringslite_Index_one s 94
  unfold cutH hasH
  rw [hi] at hix ⊢
  have HIX := hid hix
  have hb : i < (s.size : Int) := by have := (idx_lt s.data.toList 94).1; rw [hi] at this; have e : s.data.toList.length = s.size := Array.length_toList; omega
  clear hi
  clear hix
  by_cases h : 0 ≤ i
  · rw [if_pos h, decide_eq_true h]
    go_enter Tryd.func37, Tryd.ntmps37
    go_wp2_with fail
    refine (HIX.out _).mono ?_
    rintro e w' ⟨rfl, rfl⟩
    go_wp2_with fail
    refine wp_region_quiet_all (by kernel_rfl) (by kernel_rfl) ?_
    repeat (go_big_quiet_step (fail))
    refine wpQuiet_end ?_
    go_wp2_with fail
    go_ret3
    have e1 : (i + 1).toNat = i.toNat + 1 := by omega
    rw [take_str, drop_str, e1]
    exact ⟨rfl, ⟨rfl, rfl, rfl, Nat.le_refl _, fun _ _ => rfl⟩⟩
  · rw [if_neg h, decide_eq_false h]
    go_enter Tryd.func37, Tryd.ntmps37
    go_wp2_with fail
    refine (HIX.out _).mono ?_
    rintro e w' ⟨rfl, rfl⟩
    go_wp2_with fail
    go_ret3
    exact ⟨rfl, Below.refl _ _⟩
theorem strcut_any (s : ByteArray) (w : World) (hs : s.size ≤ 1000000) : Calls Tryd.prog 28 #[.string s, .string ⟨#[94]⟩] w fun e w' =>
    e = .returned (.tuple #[.string ⟨(cutH s.data.toList).1.toArray⟩, .string ⟨(cutH s.data.toList).2.toArray⟩, .bool (hasH s.data.toList)]) ∧ Below w.heap.size w w' := by
  have HC := hid (fun w => slcut_any s w hs)
  generalize (⟨(cutH s.data.toList).1.toArray⟩ : ByteArray) = a at *
  generalize (⟨(cutH s.data.toList).2.toArray⟩ : ByteArray) = b at *
  generalize hasH s.data.toList = f at *
  go_enter Tryd.func28, Tryd.ntmps28
  go_wp2_with fail
  refine (HC.out _).mono ?_
  rintro e w' ⟨rfl, hB⟩
  go_wp2_with fail
  go_ret3
  exact ⟨rfl, hB⟩
end Go.Proofs.YtmfoincmjpogmaaDoor
