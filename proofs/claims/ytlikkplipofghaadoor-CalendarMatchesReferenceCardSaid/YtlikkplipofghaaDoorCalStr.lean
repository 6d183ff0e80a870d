/- calendar: the string of a moment; a text cut at its first dot -/
import Derived.Test.YtlikkplipofghaaDoorCalBase
import Derived.Test.YtlikkplipofghaaDoorStrLib
import Derived.Test.YtlikkplipofghaaDoorLibQ
namespace Go.Proofs.YtlikkplipofghaaDoor
open Go.RowKit

def dotS : ByteArray := ⟨#[46]⟩
theorem str_ext {s t : ByteArray} (h : s.data.toList = t.data.toList) : s = t := by
  cases s; cases t; congr 1; exact Array.toList_inj.1 h
theorem take_str (s : ByteArray) (i : Nat) : s.extract 0 i = ⟨(s.data.toList.take i).toArray⟩ := by
  apply str_ext; simp [ByteArray.data_extract]
theorem drop_str (s : ByteArray) (i : Nat) : s.extract i s.size = ⟨(s.data.toList.drop i).toArray⟩ := by
  apply str_ext
  simp only [ByteArray.data_extract, Array.toList_extract, List.extract_eq_take_drop]
  rw [List.take_of_length_le]
  have : s.data.toList.length = s.size := Array.length_toList
  rw [List.length_drop]; omega
/-- what stands ahead of the first dot, and behind it -/
def cutF (l : List UInt8) : List UInt8 × List UInt8 := if 0 ≤ Lib.indexByte l 46 then (l.take (Lib.indexByte l 46).toNat, l.drop ((Lib.indexByte l 46).toNat + 1)) else (l, [])

theorem idx_lt (l : List UInt8) (c : UInt8) : Lib.indexByte l c < (l.length : Int) ∧ -1 ≤ Lib.indexByte l c := by
  have h1 := Lib.indexByte_ge l c
  refine ⟨?_, h1⟩
  rcases Int.lt_or_le (Lib.indexByte l c) 0 with h | h
  · omega
  · obtain ⟨o, ho⟩ : ∃ o : Nat, Lib.indexByte l c = (o : Int) := ⟨(Lib.indexByte l c).toNat, by omega⟩
    have := (List.getElem?_eq_some_iff.1 (Lib.indexByte_some ho).1).1
    omega
theorem slcut_any (s : ByteArray) (w : World) (hs : s.size ≤ 1000000) : Calls Tryd.prog 32 #[.string s, .string ⟨#[46]⟩] w fun e w' =>
    ∃ f, e = .returned (.tuple #[.string ⟨(cutF s.data.toList).1.toArray⟩, .string ⟨(cutF s.data.toList).2.toArray⟩, .bool f]) ∧ Below w.heap.size w w' := by
  obtain ⟨i, hi⟩ : ∃ i, Lib.indexByte s.data.toList 46 = i := ⟨_, rfl⟩
  have hix := Tryd.stringslite_Index_one s 46
  unfold cutF
  rw [hi] at hix ⊢
  have HIX := hid hix
  have hb : i < (s.size : Int) := by have := (idx_lt s.data.toList 46).1; rw [hi] at this; have e : s.data.toList.length = s.size := Array.length_toList; omega
  clear hi
  clear hix
  by_cases h : 0 ≤ i
  · rw [if_pos h]
    go_enter Tryd.func32, Tryd.ntmps32
    go_wp2_with fail
    refine (HIX.out _).mono ?_
    rintro e w' ⟨rfl, rfl⟩
    go_wp2_with fail
    refine wp_region_quiet_all (by kernel_rfl) (by kernel_rfl) ?_
    repeat (go_big_quiet_step (fail))
    refine wpQuiet_end ?_
    go_wp2_with fail
    go_ret3
    have e1 : (i + 1).toNat = i.toNat + 1 := by omega
    rw [take_str, drop_str, e1]
    exact ⟨true, rfl, ⟨rfl, rfl, rfl, Nat.le_refl _, fun _ _ => rfl⟩⟩
  · rw [if_neg h]
    go_enter Tryd.func32, Tryd.ntmps32
    go_wp2_with fail
    refine (HIX.out _).mono ?_
    rintro e w' ⟨rfl, rfl⟩
    go_wp2_with fail
    go_ret3
    exact ⟨false, rfl, Below.refl _ _⟩

def textF (m : Int) : List UInt8 := Lib.itoa (m / 96) ++ 46 :: Lib.itoa (m % 96)
theorem itoa_size (n : Int) (h : i64B n) : (⟨(Lib.itoa n).toArray⟩ : ByteArray).size ≤ 21 := by
  have := Lib.itoa_length_le n h.1 h.2
  show (Lib.itoa n).toArray.size ≤ 21
  simpa using this
theorem text_yes (m : Int) (w : World) (h0 : 0 ≤ m) (h1 : m ≤ 38399) (hL : Lay w) : Calls Tryd.prog 14 #[.int .i64 m] w fun e w' => e = .returned (.tuple #[.string ⟨(textF m).toArray⟩, .int .i64 0]) ∧ Below w.heap.size w w' := by
  have i1 := fun w hL => itoa_any (m / 96) w ⟨by omega, by omega⟩ hL
  have i2 := fun w hL => itoa_any (m % 96) w ⟨by omega, by omega⟩ hL
  have z1 := itoa_size (m / 96) ⟨by omega, by omega⟩
  have z2 := itoa_size (m % 96) ⟨by omega, by omega⟩
  obtain ⟨S, hS⟩ : ∃ S : ByteArray, ⟨(Lib.itoa (m / 96)).toArray⟩ = S := ⟨_, rfl⟩
  obtain ⟨T, hT⟩ : ∃ S : ByteArray, ⟨(Lib.itoa (m % 96)).toArray⟩ = S := ⟨_, rfl⟩
  have hx : (⟨(textF m).toArray⟩ : ByteArray) = S ++ ⟨#[46]⟩ ++ T := by
    subst hS hT
    apply str_ext
    simp [textF]
  rw [hS] at i1 z1
  rw [hT] at i2 z2
  rw [hx]
  clear hx hS hT
  have I1 := hid i1
  have I2 := hid i2
  clear i1 i2
  go_enter Tryd.func14, Tryd.ntmps14
  go_wp2_with (first | (go_at_call 10; refine (split_yes _ _ h0 h1).mono ?_; rintro e w' ⟨rfl, rfl⟩))
  refine (I1.out _ hL).mono ?_
  rintro e w1 ⟨rfl, hB1⟩
  go_wp2_with fail
  refine (I2.out _ (hL.below hB1)).mono ?_
  rintro e w2 ⟨rfl, hB2⟩
  go_wp2_with fail
  go_ret2
  exact ⟨rfl, bthen hB1 hB2⟩
theorem text_no (m : Int) (w : World) (h : ¬ (0 ≤ m ∧ m ≤ 38399)) : Calls Tryd.prog 14 #[.int .i64 m] w fun e w' => e = .returned (.tuple #[.string ⟨#[]⟩, .int .i64 1]) ∧ w = w' := by
  have H := hid h
  clear h
  go_enter Tryd.func14, Tryd.ntmps14
  go_wp2_with (first | (go_at_call 10; refine (split_no _ _ H.out).mono ?_; rintro e w' ⟨rfl, rfl⟩))
  go_ret2
  exact ⟨rfl, rfl⟩
theorem strcut_any (s : ByteArray) (w : World) (hs : s.size ≤ 1000000) : Calls Tryd.prog 27 #[.string s, .string ⟨#[46]⟩] w fun e w' =>
    ∃ f, e = .returned (.tuple #[.string ⟨(cutF s.data.toList).1.toArray⟩, .string ⟨(cutF s.data.toList).2.toArray⟩, .bool f]) ∧ Below w.heap.size w w' := by
  have HC := hid (fun w => slcut_any s w hs)
  generalize (⟨(cutF s.data.toList).1.toArray⟩ : ByteArray) = a at *
  generalize (⟨(cutF s.data.toList).2.toArray⟩ : ByteArray) = b at *
  go_enter Tryd.func27, Tryd.ntmps27
  go_wp2_with fail
  refine (HC.out _).mono ?_
  rintro e w' ⟨f, rfl, hB⟩
  go_wp2_with fail
  go_ret3
  exact ⟨f, rfl, hB⟩
end Go.Proofs.YtlikkplipofghaaDoor
