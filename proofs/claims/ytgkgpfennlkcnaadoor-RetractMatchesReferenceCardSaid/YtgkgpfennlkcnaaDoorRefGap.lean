/- the reference's gaps -/
import Derived.Test.YtgkgpfennlkcnaaDoorRefCls
namespace Go.Proofs.YtgkgpfennlkcnaaDoor
open Go.RowKit

set_option maxHeartbeats 1000000 in
set_option maxRecDepth 100000 in
theorem rhas_any (s : ByteArray) (c : UInt8) (w : World) (hs : s.size ≤ 1000000) : Calls Tryd.prog 48 #[.string s, .int .u8 c.toNat] w fun e w' => e = .returned (.bool (s.data.toList.contains c)) ∧ w = w' := by
  have HZ := hid (Lib.size_eq s)
  obtain ⟨R, HR⟩ : ∃ R, Hid (s.data.toList.contains c = R) := ⟨_, hid rfl⟩
  rw [HR.out]
  go_enter Tryd.func48, Tryd.ntmps48
  go_wp2_with fail
  go_loopw [5] (fun s2 wr => ∃ k : Nat, s2 = .int .i64 k ∧ k ≤ s.size ∧ wr = w ∧ Hid (∀ (j : Nat) (b : UInt8), j < k → s.data.toList[j]? = some b → ¬ b = c)) (fun s2 _ => s.size - (intOf s2).toNat)
  case atStart => exact ⟨0, rfl, by omega, rfl, hid (fun j b hj => by omega)⟩
  case round =>
    obtain ⟨k, rfl, hk, rfl, HK⟩ := hrel
    by_cases hlt : k < s.size
    · obtain ⟨b, hx⟩ : ∃ b, s[k]'hlt = b := ⟨_, rfl⟩
      have HB := hid (show s.data.toList[k]? = some b by rw [← hx]; exact Lib.data_getElem? s k hlt)
      have hI : (k : Int) < (s.size : Int) := by omega
      by_cases hbc : b.toNat = c.toNat
      · have hb2 : ((b.toNat : Int) == (c.toNat : Int)) = true := by rw [hbc]; simp
        have HBC := hid (UInt8.toNat_inj.1 hbc)
        clear hbc
        go_wp2_with fail
        go_ret
        refine ⟨ret_bool ?_, rfl⟩
        rw [← HR.out]
        have := List.mem_of_getElem? HB.out
        rw [HBC.out] at this
        simpa using this
      · have hb2 : ((b.toNat : Int) == (c.toNat : Int)) = false := by rw [beq_eq_false_iff_ne]; omega
        have HBC := hid (show ¬ b = c from fun e => hbc (by rw [e]))
        clear hbc
        go_wp2_with fail
        go_roundw
        case rel =>
          refine ⟨k + 1, by go_num, by omega, trivial, hid (fun j d hj hd => ?_)⟩
          by_cases e : j = k
          · subst e; rw [HB.out] at hd; cases hd; exact HBC.out
          · exact HK.out j d (by omega) hd
        case measure => simp [intOf]; omega
    · have hI : ¬ (k : Int) < (s.size : Int) := by omega
      obtain rfl : k = s.size := by omega
      have hno : R = false := by
        rw [← HR.out, Bool.eq_false_iff]
        intro h
        have hm : c ∈ s.data.toList := by simpa using h
        obtain ⟨j, hj⟩ := List.getElem?_of_mem hm
        exact HK.out j c (by have := (List.getElem?_eq_some_iff.1 hj).1; rw [HZ.out]; exact this) hj rfl
      subst hno
      clear HK
      go_wp2_with fail
      go_ret
      exact ⟨rfl, rfl⟩
def blankB : ByteArray := ⟨#[32, 9, 10]⟩
theorem blankB_cls (b : UInt8) : blankB.data.toList.contains b = decide (cls b = 1) := by
  have h : ∀ n : Nat, n < 256 → (clsN n = 1 ↔ (n = 32 ∨ n = 9 ∨ n = 10)) := by decide +kernel
  have h2 := h b.toNat b.toNat_lt
  rw [Bool.eq_iff_iff]
  show ([32, 9, 10] : List UInt8).contains b = true ↔ _
  simp only [List.contains_cons, List.contains_nil, Bool.or_false, Bool.or_eq_true, beq_iff_eq, decide_eq_true_eq]
  show _ ↔ clsN b.toNat = 1
  rw [h2]
  have e1 : b = 32 ↔ b.toNat = 32 := ⟨fun h => by rw [h]; rfl, fun h => UInt8.toNat_inj.1 h⟩
  have e2 : b = 9 ↔ b.toNat = 9 := ⟨fun h => by rw [h]; rfl, fun h => UInt8.toNat_inj.1 h⟩
  have e3 : b = 10 ↔ b.toNat = 10 := ⟨fun h => by rw [h]; rfl, fun h => UInt8.toNat_inj.1 h⟩
  rw [e1, e2, e3]
theorem gap_step1 {l : List UInt8} {k : Nat} {b : UInt8} (h : l[k]? = some b) (hc : cls b = 1) : gapL false (l.drop k) = 1 + gapL false (l.drop (k + 1)) := by
  have hk := (List.getElem?_eq_some_iff.1 h).1
  rw [List.drop_eq_getElem_cons hk, (List.getElem?_eq_some_iff.1 h).2]
  simp only [gapL, if_pos hc]
theorem gap_step35 {l : List UInt8} {k : Nat} (h : l[k]? = some 35) : gapL false (l.drop k) = gapL true (l.drop k) := by
  have hk := (List.getElem?_eq_some_iff.1 h).1
  rw [List.drop_eq_getElem_cons hk, (List.getElem?_eq_some_iff.1 h).2]
  have hc : ¬ cls 35 = 1 := by decide
  simp only [gapL, if_neg hc]; rfl
theorem gap_stop0 {l : List UInt8} {k : Nat} {b : UInt8} (h : l[k]? = some b) (h1 : ¬ cls b = 1) (h2 : ¬ b = 35) : gapL false (l.drop k) = 0 := by
  have hk := (List.getElem?_eq_some_iff.1 h).1
  rw [List.drop_eq_getElem_cons hk, (List.getElem?_eq_some_iff.1 h).2]
  simp only [gapL, if_neg h1, if_neg h2]
theorem gap_in {l : List UInt8} {k : Nat} {b : UInt8} (h : l[k]? = some b) (h1 : ¬ b = 10) : gapL true (l.drop k) = 1 + gapL true (l.drop (k + 1)) := by
  have hk := (List.getElem?_eq_some_iff.1 h).1
  rw [List.drop_eq_getElem_cons hk, (List.getElem?_eq_some_iff.1 h).2]
  have : (b == 10) = false := by simpa using h1
  simp only [gapL, this, Bool.not_false]
theorem gap_out {l : List UInt8} {k : Nat} (h : l[k]? = some 10) : gapL true (l.drop k) = gapL false (l.drop k) := by
  have hk := (List.getElem?_eq_some_iff.1 h).1
  rw [List.drop_eq_getElem_cons hk, (List.getElem?_eq_some_iff.1 h).2]
  simp only [gapL, if_pos cls10]; rfl
theorem gap_all {l : List UInt8} {k : Nat} (c : Bool) (h : l.length ≤ k) : gapL c (l.drop k) = 0 := by
  rw [List.drop_of_length_le h]; cases c <;> rfl

set_option maxHeartbeats 2000000 in
set_option maxRecDepth 100000 in
theorem rgap_any (s : ByteArray) (i : Nat) (w : World) (hs : s.size ≤ 1000000) (hi : i ≤ s.size) : Calls Tryd.prog 42 #[.string s, .int .i64 i] w fun e w' => e = .returned (.int .i64 ((i + gapL false (s.data.toList.drop i) : Nat) : Int)) ∧ w = w' := by
  obtain ⟨R, HR⟩ : ∃ R, Hid (i + gapL false (s.data.toList.drop i) = R) := ⟨_, hid rfl⟩
  rw [HR.out]
  have HZ := hid (Lib.size_eq s)
  go_enter Tryd.func42, Tryd.ntmps42
  go_wp2_with fail
  have HS := hid (fun c w => rhas_any ⟨#[32, 9, 10]⟩ c w (by decide))
  go_loopw [1] (fun s1 wr => ∃ k : Nat, s1 = .int .i64 k ∧ k ≤ s.size ∧ wr = w ∧ Hid (k + gapL false (s.data.toList.drop k) = R)) (fun s1 _ => s.size - (intOf s1).toNat)
  case atStart => exact ⟨i, rfl, hi, rfl, HR⟩
  case round =>
    clear hi HR
    obtain ⟨k, rfl, hk, rfl, HK⟩ := hrel
    by_cases hlt : k < s.size
    · obtain ⟨b, hx⟩ : ∃ b, s[k]'hlt = b := ⟨_, rfl⟩
      have HB := hid (show s.data.toList[k]? = some b by rw [← hx]; exact Lib.data_getElem? s k hlt)
      have hI : (k : Int) < (s.size : Int) := by omega
      have HS1 := hid (fun w => HS.out b w)
      have hbc : (⟨#[32, 9, 10]⟩ : ByteArray).data.toList.contains b = decide (cls b = 1) := blankB_cls b
      rw [hbc] at HS1
      clear hbc
      by_cases h1 : cls b = 1
      · rw [decide_eq_true h1] at HS1
        have H1 := hid (gap_step1 HB.out h1)
        clear h1
        go_wp2_with fail
        refine (HS1.out _).mono ?_
        rintro e w' ⟨rfl, rfl⟩
        go_wp2_with fail
        go_roundw
        case rel => exact ⟨k + 1, by go_num, by omega, trivial, hid (by have := HK.out; have := H1.out; omega)⟩
        case measure => simp [intOf]; omega
      · rw [decide_eq_false h1] at HS1
        have H1 := hid h1
        clear h1
        by_cases h2 : b.toNat = 35
        · have hb2 : ((b.toNat : Int) == 35) = true := by rw [h2]; rfl
          have hb35 : b = 35 := UInt8.toNat_inj.1 h2
          have H35 := hid (show s.data.toList[k]? = some 35 by rw [HB.out, hb35])
          have HK2 := hid (show k + gapL true (s.data.toList.drop k) = R by rw [← gap_step35 H35.out]; exact HK.out)
          clear h2 hb35
          go_wp2_with fail
          refine (HS1.out _).mono ?_
          rintro e w' ⟨rfl, rfl⟩
          go_wp2_with fail
          clear hb2 hx hI
          go_loopw [1] (fun s1 wx => ∃ m : Nat, s1 = .int .i64 m ∧ k ≤ m ∧ m ≤ s.size ∧ wx = wr ∧ Hid (m + gapL true (s.data.toList.drop m) = R)) (fun s1 _ => s.size - (intOf s1).toNat)
          case atStart => exact ⟨k, rfl, Nat.le_refl _, hk, rfl, HK2⟩
          case round =>
            obtain ⟨m, rfl, hkm, hm, rfl, HM⟩ := hrel
            by_cases hml : m < s.size
            · obtain ⟨c, hy⟩ : ∃ c, s[m]'hml = c := ⟨_, rfl⟩
              have HC := hid (show s.data.toList[m]? = some c by rw [← hy]; exact Lib.data_getElem? s m hml)
              have hJ : (m : Int) < (s.size : Int) := by omega
              by_cases h10 : c.toNat = 10
              · have hc2 : ((c.toNat : Int) != 10) = false := by rw [h10]; rfl
                have hcc : c = 10 := UInt8.toNat_inj.1 h10
                have hne : m ≠ k := by
                  intro e; subst e
                  have := HC.out
                  rw [H35.out, hcc] at this
                  exact absurd (Option.some.inj this) (by decide)
                have HM2 := hid (show m + gapL false (s.data.toList.drop m) = R by rw [← gap_out (by rw [HC.out, hcc])]; exact HM.out)
                clear h10 hcc
                go_wp2_with fail
                go_roundw
                case rel => exact ⟨m, rfl, hm, trivial, HM2⟩
                case measure => simp [intOf]; omega
              · have hc2 : ((c.toNat : Int) != 10) = true := by rw [bne_iff_ne]; omega
                have HM2 := hid (gap_in HC.out (fun e => h10 (by rw [e]; rfl)))
                clear h10
                go_wp2_with fail
                go_roundw
                case rel => exact ⟨m + 1, by go_num, by omega, by omega, trivial, hid (by have := HM.out; have := HM2.out; omega)⟩
                case measure => simp [intOf]; omega
            · have hJ : ¬ (m : Int) < (s.size : Int) := by omega
              have HM2 := hid (show m + gapL false (s.data.toList.drop m) = R by
                have := HM.out
                rw [gap_all true (by rw [← HZ.out]; omega)] at this
                rw [gap_all false (by rw [← HZ.out]; omega)]; exact this)
              go_wp2_with fail
              go_roundw
              case rel => exact ⟨m, rfl, hm, trivial, HM2⟩
              case measure => simp [intOf]; omega
        · have hb2 : ((b.toNat : Int) == 35) = false := by rw [beq_eq_false_iff_ne]; omega
          have hR : k = R := by
            have := HK.out
            rw [gap_stop0 HB.out H1.out (fun e => h2 (by rw [e]; rfl))] at this
            omega
          subst hR
          clear h2
          go_wp2_with fail
          refine (HS1.out _).mono ?_
          rintro e w' ⟨rfl, rfl⟩
          go_wp2_with fail
          go_ret
          exact ⟨rfl, rfl⟩
    · have hI : ¬ (k : Int) < (s.size : Int) := by omega
      have hR : k = R := by
        have := HK.out
        rw [gap_all false (by rw [← HZ.out]; omega)] at this
        omega
      subst hR
      go_wp2_with fail
      go_ret
      exact ⟨rfl, rfl⟩
end Go.Proofs.YtgkgpfennlkcnaaDoor
