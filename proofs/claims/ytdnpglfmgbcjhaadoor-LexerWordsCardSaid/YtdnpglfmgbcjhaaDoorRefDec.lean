/- the reference's Decimal -/
import Derived.Test.YtdnpglfmgbcjhaaDoorLexR7
namespace Go.Proofs.YtdnpglfmgbcjhaaDoor
open Go.RowKit

def digS : ByteArray := ⟨#[48, 49, 50, 51, 52, 53, 54, 55, 56, 57]⟩
theorem slice_two (s : ByteArray) (a b : Int) (h0 : 0 ≤ a) (h1 : a ≤ b) (h2 : b ≤ (s.size : Int)) (w : World) : (Instr.slice 9 (.string s) (some (.int .i64 a)) (some (.int .i64 b)) none).run Tryd.prog w = .ok (.string (s.extract a.toNat b.toNat)) w := by
  have h3 : 0 ≤ b := by omega
  unfold Instr.slice Instr.sliceBounds Instr.sliceBound
  simp [go_sem, h0, h2, h3]
  intro h5
  omega
theorem dig_at : ∀ d : Nat, d < 10 → digS.extract d (d + 1) = ⟨#[UInt8.ofNat (48 + d)]⟩ := by decide
theorem dec_slice (d : Nat) (h : d < 10) (w : World) : (Instr.slice 9 (.string ⟨#[48, 49, 50, 51, 52, 53, 54, 55, 56, 57]⟩) (some (.int .i64 d)) (some (.int .i64 ((d : Int) + 1))) none).run Tryd.prog w = .ok (.string ⟨#[UInt8.ofNat (48 + d)]⟩) w := by
  have := slice_two digS d ((d : Int) + 1) (by omega) (by omega) (by show (d : Int) + 1 ≤ 10; omega) w
  have e1 : ((d : Int)).toNat = d := by omega
  have e2 : ((d : Int) + 1).toNat = d + 1 := by omega
  rw [e1, e2, dig_at d h] at this
  exact this
theorem decF_one {f n : Nat} (hf : 0 < f) (h : n < 10) : decF f n = [UInt8.ofNat (48 + n)] := by
  obtain ⟨g, rfl⟩ : ∃ g, f = g + 1 := ⟨f - 1, by omega⟩
  unfold decF; rw [if_pos h]
set_option maxHeartbeats 1000000 in
set_option maxRecDepth 100000 in
theorem rdec_any : ∀ (f n : Nat) (w : World), 0 < f → f ≤ 18 → n < 10 ^ f → n ≤ 1000000000000000000 → Calls Tryd.prog 21 #[.int .i64 n] w fun e w' => e = .returned (.string ⟨(decF f n).toArray⟩) ∧ w = w' := by
  intro f
  induction f with
  | zero => intro n w h; omega
  | succ f ih =>
    intro n w _ hf18 hn hmax
    by_cases h : n < 10
    · rw [decF_one (by omega) h]
      have sl := dec_slice n h
      have hi : (n : Int) < 10 := by omega
      generalize UInt8.ofNat (48 + n) = c at *
      go_enter Tryd.func21, Tryd.ntmps21
      go_wp2_with fail
      go_ret
      exact ⟨rfl, rfl⟩
    · have hf0 : 0 < f := by
        rcases Nat.eq_zero_or_pos f with h0 | h0
        · subst h0; simp at hn; omega
        · exact h0
      have hq : n / 10 < 10 ^ f := by rw [Nat.pow_succ] at hn; omega
      have hr : n % 10 < 10 ^ f := by
        have : 10 ^ 1 ≤ 10 ^ f := Nat.pow_le_pow_right (by omega) hf0
        omega
      have IQ := hid (fun w => ih (n / 10) w hf0 (by omega) hq (by omega))
      have IR := hid (fun w => ih (n % 10) w hf0 (by omega) hr (by omega))
      have hlq := (decF_spec f (n / 10) hq hf0).2.1
      have e : (⟨(decF (f + 1) n).toArray⟩ : ByteArray) = ⟨(decF f (n / 10)).toArray⟩ ++ ⟨(decF f (n % 10)).toArray⟩ := by
        rw [decF_one hf0 (by omega : n % 10 < 10)]
        conv => lhs; unfold decF
        rw [if_neg h]
        apply congrArg ByteArray.mk
        apply Array.toList_inj.1
        show _ = ((⟨(decF f (n / 10)).toArray⟩ : ByteArray) ++ ⟨#[UInt8.ofNat (48 + n % 10)]⟩).data.toList
        simp
      rw [e]
      have hs1 : (⟨(decF f (n / 10)).toArray⟩ : ByteArray).size ≤ 18 := by show (decF f (n / 10)).toArray.size ≤ _; rw [List.size_toArray]; omega
      have hs2 : (⟨(decF f (n % 10)).toArray⟩ : ByteArray).size ≤ 18 := by
        show (decF f (n % 10)).toArray.size ≤ _; rw [List.size_toArray, decF_one hf0 (by omega : n % 10 < 10)]; simp
      clear e hq hr hlq ih
      generalize (⟨(decF f (n / 10)).toArray⟩ : ByteArray) = Q at *
      generalize (⟨(decF f (n % 10)).toArray⟩ : ByteArray) = R at *
      have hi : ¬ (n : Int) < 10 := by omega
      have q1 : (n : Int) / 10 = ((n / 10 : Nat) : Int) := by push_cast; rfl
      have r1 : (n : Int) % 10 = ((n % 10 : Nat) : Int) := by push_cast; rfl
      have q2 : Int.tdiv (n : Int) 10 = ((n / 10 : Nat) : Int) := by rw [Int.tdiv_eq_ediv_of_nonneg (by omega)]; exact q1
      have r2 : Int.tmod (n : Int) 10 = ((n % 10 : Nat) : Int) := by rw [Int.tmod_eq_emod_of_nonneg (by omega)]; exact r1
      have hb1 : n / 10 ≤ 1000000000000000000 := by omega
      have hb2 : n % 10 < 10 := by omega
      generalize n / 10 = q at *
      generalize n % 10 = r at *
      clear hn hf18
      go_enter Tryd.func21, Tryd.ntmps21
      go_wp2_with fail
      refine (IQ.out _).mono ?_
      rintro e w' ⟨rfl, rfl⟩
      go_wp2_with fail
      refine (IR.out _).mono ?_
      rintro e w' ⟨rfl, rfl⟩
      go_wp2_with fail
      go_ret
      exact ⟨rfl, rfl⟩
end Go.Proofs.YtdnpglfmgbcjhaaDoor
