/- the reference's Name: an identifier -/
import Derived.Test.YtdnpglfmgbcjhaaDoorLexPure
import Derived.Test.YtdnpglfmgbcjhaaDoorProg
import Derived.Test.YtdnpglfmgbcjhaaDoorLib2
import Derived.Test.YtdnpglfmgbcjhaaDoorLibQ
import Derived.Laws.Rows
namespace Go.Proofs.YtdnpglfmgbcjhaaDoor
open Go.RowKit

theorem clsN3 : ∀ n, n < 256 → (clsN n = 3 ↔ ((97 ≤ n ∧ n ≤ 122) ∨ (65 ≤ n ∧ n ≤ 90))) := by decide +kernel
theorem clsN4 : ∀ n, n < 256 → (clsN n = 4 ↔ (48 ≤ n ∧ n ≤ 57)) := by decide +kernel
theorem clsN5 : ∀ n, n < 256 → (clsN n = 5 ↔ n = 95) := by decide +kernel
theorem rletter_any (b : UInt8) (w : World) : Calls Tryd.prog 28 #[.int .u8 b.toNat] w fun e w' => e = .returned (.bool (decide (cls b = 3))) ∧ w = w' := by
  have hb := b.toNat_lt
  have hc : cls b = clsN b.toNat := rfl
  rw [hc]
  generalize b.toNat = n at *
  have h3 := clsN3 n hb
  clear hc
  by_cases h1 : 97 ≤ n
  · by_cases h2 : n ≤ 122
    · rw [decide_eq_true (h3.2 (.inl ⟨h1, h2⟩))]
      clear h3
      go_enter Tryd.func28, Tryd.ntmps28
      go_wp2
      go_ret
      exact ⟨ret_bool (by first | rfl | (simp; omega) | (simp [*])), rfl⟩
    · rw [decide_eq_false (fun h => by have := h3.1 h; omega)]
      clear h3
      go_enter Tryd.func28, Tryd.ntmps28
      go_wp2
      go_ret
      exact ⟨ret_bool (by first | rfl | (simp; omega) | (simp [*])), rfl⟩
  · by_cases h2 : 65 ≤ n
    · by_cases h4 : n ≤ 90
      · rw [decide_eq_true (h3.2 (.inr ⟨h2, h4⟩))]
        clear h3
        go_enter Tryd.func28, Tryd.ntmps28
        go_wp2
        go_ret
        exact ⟨ret_bool (by first | rfl | (simp; omega) | (simp [*])), rfl⟩
      · rw [decide_eq_false (fun h => by have := h3.1 h; omega)]
        clear h3
        go_enter Tryd.func28, Tryd.ntmps28
        go_wp2
        go_ret
        exact ⟨ret_bool (by first | rfl | (simp; omega) | (simp [*])), rfl⟩
    · rw [decide_eq_false (fun h => by have := h3.1 h; omega)]
      clear h3
      go_enter Tryd.func28, Tryd.ntmps28
      go_wp2
      go_ret
      exact ⟨ret_bool (by first | rfl | (simp; omega) | (simp [*])), rfl⟩

theorem rdigit_any (b : UInt8) (w : World) : Calls Tryd.prog 37 #[.int .u8 b.toNat] w fun e w' => e = .returned (.bool (decide (cls b = 4))) ∧ w = w' := by
  have hb := b.toNat_lt
  have hc : cls b = clsN b.toNat := rfl
  rw [hc]
  generalize b.toNat = n at *
  have h3 := clsN4 n hb
  clear hc
  by_cases h1 : 48 ≤ n
  · by_cases h2 : n ≤ 57
    · rw [decide_eq_true (h3.2 ⟨h1, h2⟩)]
      clear h3
      go_enter Tryd.func37, Tryd.ntmps37
      go_wp2
      go_ret
      exact ⟨ret_bool (by first | rfl | (simp; omega) | (simp [*])), rfl⟩
    · rw [decide_eq_false (fun h => by have := h3.1 h; omega)]
      clear h3
      go_enter Tryd.func37, Tryd.ntmps37
      go_wp2
      go_ret
      exact ⟨ret_bool (by first | rfl | (simp; omega) | (simp [*])), rfl⟩
  · rw [decide_eq_false (fun h => by have := h3.1 h; omega)]
    clear h3
    go_enter Tryd.func37, Tryd.ntmps37
    go_wp2
    go_ret
    exact ⟨ret_bool (by first | rfl | (simp; omega) | (simp [*])), rfl⟩

theorem cls5 (b : UInt8) : cls b = 5 ↔ b.toNat = 95 := clsN5 _ b.toNat_lt
theorem rword_any (b : UInt8) (w : World) : Calls Tryd.prog 27 #[.int .u8 b.toNat] w fun e w' => e = .returned (.bool ([3, 4, 5].contains (cls b))) ∧ w = w' := by
  have hb := b.toNat_lt
  have HL := hid (fun w => rletter_any b w)
  have HD := hid (fun w => rdigit_any b w)
  have h5 := cls5 b
  have hle := cls_le b
  have hcc : [3, 4, 5].contains (cls b) = (decide (cls b = 3) || (decide (cls b = 4) || decide (b.toNat = 95))) := by
    rw [Bool.eq_iff_iff]; simp [h5]
  rw [hcc]
  clear hcc h5
  generalize decide (cls b = 3) = B1 at *
  generalize decide (cls b = 4) = B2 at *
  generalize b.toNat = n at *
  go_enter Tryd.func27, Tryd.ntmps27
  go_wp2_with fail
  refine (HL.out _).mono ?_
  rintro e w' ⟨rfl, rfl⟩
  cases B1 with
  | true =>
    go_wp2_with fail
    go_ret
    exact ⟨ret_bool (by first | rfl | simp), rfl⟩
  | false =>
    go_wp2_with fail
    refine (HD.out _).mono ?_
    rintro e w' ⟨rfl, rfl⟩
    cases B2 with
    | true =>
      go_wp2_with fail
      go_ret
      exact ⟨ret_bool (by first | rfl | simp), rfl⟩
    | false =>
      go_wp2_with fail
      go_ret
      exact ⟨ret_bool (by first | rfl | (rw [Bool.eq_iff_iff]; simp; done) | (rw [Bool.eq_iff_iff]; simp; omega)), rfl⟩

def wordsB (l : List UInt8) : Bool := l.all (fun b => [3, 4, 5].contains (cls b))
def nameB (l : List UInt8) : Bool := wordsB l && decide (0 < l.length ∧ l.length ≤ 24) && decide (atC l 0 = 3)

set_option maxHeartbeats 1000000 in
set_option maxRecDepth 100000 in
theorem rname_any (s : ByteArray) (w : World) (hs : s.size ≤ 9223372036854775807) : Calls Tryd.prog 20 #[.string s] w fun e w' => e = .returned (.bool (nameB s.data.toList)) ∧ w = w' := by
  have HZ := hid (Lib.size_eq s)
  obtain ⟨R, HR⟩ : ∃ R, Hid (nameB s.data.toList = R) := ⟨_, hid rfl⟩
  rw [HR.out]
  go_enter Tryd.func20, Tryd.ntmps20
  go_wp2_with fail
  go_loopw [3] (fun s2 wr => ∃ k : Nat, s2 = .int .i64 k ∧ k ≤ s.size ∧ wr = w ∧ Hid (∀ (j : Nat) (b : UInt8), j < k → s.data.toList[j]? = some b → [3, 4, 5].contains (cls b) = true)) (fun s2 _ => s.size - (intOf s2).toNat)
  case atStart => exact ⟨0, rfl, by omega, rfl, hid (fun j b hj => by omega)⟩
  case round =>
    obtain ⟨k, rfl, hk, rfl, HK⟩ := hrel
    by_cases hlt : k < s.size
    · obtain ⟨b, hx⟩ : ∃ b, s[k]'hlt = b := ⟨_, rfl⟩
      have HB := hid (show s.data.toList[k]? = some b by rw [← hx]; exact Lib.data_getElem? s k hlt)
      have hI : (k : Int) < (s.size : Int) := by omega
      have HW := hid (fun w => rword_any b w)
      cases hcb : [3, 4, 5].contains (cls b) with
      | true =>
        rw [hcb] at HW
        have HC := hid hcb
        clear hcb
        go_wp2_with fail
        refine (HW.out _).mono ?_
        rintro e w' ⟨rfl, rfl⟩
        go_wp2_with fail
        go_roundw
        case rel =>
          refine ⟨k + 1, by go_num, by omega, trivial, hid (fun j c hj hc => ?_)⟩
          by_cases e : j = k
          · subst e; rw [HB.out] at hc; cases hc; exact HC.out
          · exact HK.out j c (by omega) hc
        case measure => simp [intOf]; omega
      | false =>
        rw [hcb] at HW
        have HC := hid hcb
        clear hcb
        go_wp2_with fail
        refine (HW.out _).mono ?_
        rintro e w' ⟨rfl, rfl⟩
        go_wp2_with fail
        go_ret
        refine ⟨ret_bool ?_, rfl⟩
        rw [← HR.out]
        have : wordsB s.data.toList = false := by
          rw [Bool.eq_false_iff]
          intro h
          unfold wordsB at h
          have := List.all_eq_true.1 h b (List.mem_of_getElem? HB.out)
          rw [HC.out] at this; cases this
        unfold nameB
        rw [this]; rfl
    · have hI : ¬ (k : Int) < (s.size : Int) := by omega
      obtain rfl : k = s.size := by omega
      have hall : wordsB s.data.toList = true := by
        unfold wordsB
        rw [List.all_eq_true]
        intro b hb
        obtain ⟨j, hj⟩ := List.getElem?_of_mem hb
        exact HK.out j b (by have := (List.getElem?_eq_some_iff.1 hj).1; rw [HZ.out]; exact this) hj
      have HN := hid (show nameB s.data.toList = (decide (0 < s.data.toList.length ∧ s.data.toList.length ≤ 24) && decide (atC s.data.toList 0 = 3)) by unfold nameB; rw [hall]; rfl)
      clear hall HK
      by_cases h0 : s.size = 0
      · have HP := hid h0
        go_wp2_with fail
        go_ret
        refine ⟨ret_bool ?_, rfl⟩
        rw [← HR.out, HN.out]
        have := HP.out
        have := HZ.out
        first | (simp [← HZ.out, HP.out]; done) | (rw [decide_eq_false (by omega)]; simp [*]; done) | trace_state
      · by_cases h24 : s.size ≤ 24
        · have hlt : 0 < s.size := by omega
          obtain ⟨b, hx⟩ : ∃ b, s[0]'hlt = b := ⟨_, rfl⟩
          have HB := hid (show s.data.toList[0]? = some b by rw [← hx]; exact Lib.data_getElem? s 0 hlt)
          have HW := hid (fun w => rletter_any b w)
          have HP := hid (show (0 < s.data.toList.length ∧ s.data.toList.length ≤ 24) by rw [← HZ.out]; omega)
          go_wp2_with fail
          refine (HW.out _).mono ?_
          rintro e w' ⟨rfl, rfl⟩
          go_wp2_with fail
          go_ret
          refine ⟨ret_bool ?_, rfl⟩
          rw [← HR.out, HN.out, decide_eq_true HP.out, atC_some HB.out]
          first | rfl | (simp; done) | trace_state
        · have HP := hid (show ¬ (0 < s.data.toList.length ∧ s.data.toList.length ≤ 24) by rw [← HZ.out]; omega)
          go_wp2_with fail
          go_ret
          refine ⟨ret_bool ?_, rfl⟩
          rw [← HR.out, HN.out, decide_eq_false HP.out]
          first | rfl | (simp; done) | trace_state
end Go.Proofs.YtdnpglfmgbcjhaaDoor
