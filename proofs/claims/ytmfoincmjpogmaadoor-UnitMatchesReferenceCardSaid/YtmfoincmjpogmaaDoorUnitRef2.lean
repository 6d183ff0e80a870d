/- unit: the reference: factor, Text -/
import Derived.Test.YtmfoincmjpogmaaDoorUnitRef
import Derived.Lib.QuietBelow
namespace Go.Proofs.YtmfoincmjpogmaaDoor
open Go.RowKit

def digS : ByteArray := ⟨#[48, 49, 50, 51, 52, 53, 54, 55, 56, 57]⟩
theorem dslice (a b : Int) (h0 : 0 ≤ a) (h1 : a ≤ b) (h2 : b ≤ 10) (w : World) : (Instr.slice 9 (.string ⟨#[48, 49, 50, 51, 52, 53, 54, 55, 56, 57]⟩) (some (.int .i64 a)) (some (.int .i64 b)) none).run Tryd.prog w = .ok (.string (digS.extract a.toNat b.toNat)) w := by
  show (Instr.slice 9 (.string digS) (some (.int .i64 a)) (some (.int .i64 b)) none).run Tryd.prog w = .ok (.string (digS.extract a.toNat b.toNat)) w
  have hten : digS.size = 10 := rfl
  generalize digS = D at *
  have h3 : 0 ≤ b := by omega
  unfold Instr.slice Instr.sliceBounds Instr.sliceBound
  simp [go_sem, hten, h0, h2, h3]
  intro h5
  omega
def sp1 : ByteArray := ⟨#[32]⟩
/-- one factor appended -/
def facB (s nm : ByteArray) (n : Int) : ByteArray :=
  if n = 0 then s
  else
    let s1 := (if s.toList = [] then s else s ++ ⟨#[32]⟩) ++ nm
    if n = 1 then s1
    else if n < 0 then s1 ++ ⟨#[94, 45]⟩ ++ digS.extract (-n).toNat (1 - n).toNat
    else s1 ++ ⟨#[94]⟩ ++ digS.extract n.toNat (n + 1).toNat
theorem dig_size {a b : Nat} (h : b ≤ 10) : (digS.extract a b).size ≤ 10 := by
  have hten : digS.size = 10 := rfl
  rw [ByteArray.size_extract]; omega

set_option maxHeartbeats 2000000 in
set_option maxRecDepth 100000 in
theorem rfac_any (s nm : ByteArray) (n : Int) (w : World) (hs : s.size ≤ 1000) (hm : nm.size ≤ 1000) (hn1 : -8 ≤ n) (hn2 : n ≤ 8) : Calls Tryd.prog 26 #[.string s, .string nm, .int .i64 n] w fun e w' => e = .returned (.string (facB s nm n)) ∧ w = w' := by
  by_cases h0 : n = 0
  · subst h0
    have e : facB s nm 0 = s := by unfold facB; rw [if_pos rfl]
    rw [e]
    go_enter Tryd.func26, Tryd.ntmps26  ;go_wp2_with fail
    go_ret
    exact ⟨rfl, rfl⟩
  by_cases hse : s.toList = []
  · have he : s = ⟨#[]⟩ := by apply str_ext; rw [ByteArray.toList_eq] at hse; exact hse
    subst he
    have e1 : (⟨#[]⟩ : ByteArray) ++ nm = nm := by apply str_ext; simp
    by_cases h1 : n = 1
    · subst h1
      have e : facB ⟨#[]⟩ nm 1 = (⟨#[]⟩ : ByteArray) ++ nm := by unfold facB; rw [if_neg (by omega)]; simp only [if_pos hse]; rfl
      rw [e]
      clear e e1 hse
      go_enter Tryd.func26, Tryd.ntmps26  ;go_wp2_with fail
      go_ret
      exact ⟨rfl, rfl⟩
    · by_cases hneg : n < 0
      · have e : facB ⟨#[]⟩ nm n = (⟨#[]⟩ : ByteArray) ++ nm ++ ⟨#[94, 45]⟩ ++ digS.extract (-n).toNat (1 - n).toNat := by unfold facB; rw [if_neg h0]; simp only [if_pos hse, if_neg h1, if_pos hneg]
        rw [e]
        have sl := dslice (-n) (1 - n) (by omega) (by omega) (by omega)
        have hd := dig_size (a := (-n).toNat) (b := (1 - n).toNat) (by omega)
        have q0 : (⟨#[]⟩ : ByteArray).size = 0 := rfl
        clear e e1 hse
        generalize digS.extract (-n).toNat (1 - n).toNat = D at *
        go_enter Tryd.func26, Tryd.ntmps26  ;go_wp2_with fail
        go_ret
        exact ⟨rfl, rfl⟩
      · have e : facB ⟨#[]⟩ nm n = (⟨#[]⟩ : ByteArray) ++ nm ++ ⟨#[94]⟩ ++ digS.extract n.toNat (n + 1).toNat := by unfold facB; rw [if_neg h0]; simp only [if_pos hse, if_neg h1, if_neg hneg]
        rw [e]
        have sl := dslice n (n + 1) (by omega) (by omega) (by omega)
        have hd := dig_size (a := n.toNat) (b := (n + 1).toNat) (by omega)
        clear e e1 hse
        generalize digS.extract n.toNat (n + 1).toNat = D at *
        go_enter Tryd.func26, Tryd.ntmps26  ;go_wp2_with fail
        go_ret
        exact ⟨rfl, rfl⟩
  · have hse2 : s.toList.isEmpty = false := by cases h : s.toList with | nil => exact absurd h hse | cons _ _ => rfl
    have n1 : ¬ 9223372036854775807 < s.size + 1 := by omega
    by_cases h1 : n = 1
    · subst h1
      have e : facB s nm 1 = s ++ (⟨#[32]⟩ : ByteArray) ++ nm := by unfold facB; rw [if_neg (by omega)]; simp only [if_neg hse]; rfl
      rw [e]
      clear e
      go_enter Tryd.func26, Tryd.ntmps26  ;go_wp2_with fail
      go_ret
      exact ⟨rfl, rfl⟩
    · by_cases hneg : n < 0
      · have e : facB s nm n = s ++ (⟨#[32]⟩ : ByteArray) ++ nm ++ ⟨#[94, 45]⟩ ++ digS.extract (-n).toNat (1 - n).toNat := by unfold facB; rw [if_neg h0]; simp only [if_neg hse, if_neg h1, if_pos hneg]
        rw [e]
        have sl := dslice (-n) (1 - n) (by omega) (by omega) (by omega)
        have hd := dig_size (a := (-n).toNat) (b := (1 - n).toNat) (by omega)
        clear e
        generalize digS.extract (-n).toNat (1 - n).toNat = D at *
        go_enter Tryd.func26, Tryd.ntmps26  ;go_wp2_with fail
        go_ret
        exact ⟨rfl, rfl⟩
      · have e : facB s nm n = s ++ (⟨#[32]⟩ : ByteArray) ++ nm ++ ⟨#[94]⟩ ++ digS.extract n.toNat (n + 1).toNat := by unfold facB; rw [if_neg h0]; simp only [if_neg hse, if_neg h1, if_neg hneg]
        rw [e]
        have sl := dslice n (n + 1) (by omega) (by omega) (by omega)
        have hd := dig_size (a := n.toNat) (b := (n + 1).toNat) (by omega)
        clear e
        generalize digS.extract n.toNat (n + 1).toNat = D at *
        go_enter Tryd.func26, Tryd.ntmps26  ;go_wp2_with fail
        go_ret
        exact ⟨rfl, rfl⟩
end Go.Proofs.YtmfoincmjpogmaaDoor
