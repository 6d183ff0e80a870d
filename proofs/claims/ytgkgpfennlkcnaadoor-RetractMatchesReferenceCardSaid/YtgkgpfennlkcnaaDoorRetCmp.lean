/- retract: slices.Clone, slices.Compare, cmp.Compare of strings -/
import Derived.Test.YtgkgpfennlkcnaaDoorRetSupp
import Derived.WalkLawsBesides
namespace Go.Proofs.YtgkgpfennlkcnaaDoor
open Go.RowKit

theorem bytesLess_cmp : ∀ a b : List UInt8, Op.bytesLess a b = decide (Lib.compareBytes a b < 0)
  | [], [] => by simp [Op.bytesLess, Lib.compareBytes]
  | _ :: _, [] => by simp [Op.bytesLess, Lib.compareBytes]
  | [], _ :: _ => by simp [Op.bytesLess, Lib.compareBytes]
  | a :: xs, b :: ys => by
    unfold Op.bytesLess Lib.compareBytes
    rw [bytesLess_cmp xs ys]
    by_cases h1 : a < b
    · simp [h1]
    · by_cases h2 : b < a
      · have : ¬ a = b := by rintro rfl; exact h1 h2
        simp [h1, h2, this]
      · have : a = b := by
          have h1' : ¬ a.toNat < b.toNat := fun h => h1 (UInt8.lt_iff_toNat_lt.2 h)
          have h2' : ¬ b.toNat < a.toNat := fun h => h2 (UInt8.lt_iff_toNat_lt.2 h)
          exact UInt8.toNat_inj.1 (by omega)
        simp [this]
theorem cmpB_cases (a b : ByteArray) : (cmpB a b = -1 ∧ Op.bytesLess a.toList b.toList = true) ∨ (cmpB a b = 1 ∧ Op.bytesLess a.toList b.toList = false ∧ (a.toList == b.toList) = false) ∨ (cmpB a b = 0 ∧ Op.bytesLess a.toList b.toList = false ∧ (a.toList == b.toList) = true) := by
  have h := bytesLess_cmp a.data.toList b.data.toList
  have hz := bytes_good.zero a b
  have hr : cmpB a b = -1 ∨ cmpB a b = 0 ∨ cmpB a b = 1 := by
    unfold cmpB
    generalize a.data.toList = x
    generalize b.data.toList = y
    induction x generalizing y with
    | nil => cases y <;> simp [Lib.compareBytes]
    | cons c x ih =>
      cases y with
      | nil => simp [Lib.compareBytes]
      | cons d y =>
        unfold Lib.compareBytes
        split
        · simp
        · split
          · simp
          · exact ih y
  rw [ByteArray.toList_eq, ByteArray.toList_eq, h]
  have heq : (a.data.toList == b.data.toList) = decide (cmpB a b = 0) := by
    rw [Bool.eq_iff_iff]
    simp only [beq_iff_eq, decide_eq_true_eq]
    rw [hz]
    exact ⟨fun q => ByteArray.ext (Array.toList_inj.1 q), fun q => by rw [q]⟩
  rw [heq]
  show (_ ∧ decide (cmpB a b < 0) = true) ∨ (_ ∧ decide (cmpB a b < 0) = false ∧ _) ∨ (_ ∧ decide (cmpB a b < 0) = false ∧ _)
  rcases hr with h | h | h <;> simp [h]
theorem nan_any (s : ByteArray) (w : World) : Calls Tryd.prog 41 #[.string s] w fun e w' => e = .returned (.bool false) ∧ w = w' := by
  have hq : (s.toList == s.toList) = true := beq_self_eq_true _
  go_enter Tryd.func41, Tryd.ntmps41
  go_wp2_with fail
  go_ret
  exact ⟨ret_bool (by first | rfl | simp), rfl⟩
set_option maxHeartbeats 1000000 in
theorem cmp_any (a b : ByteArray) (w : World) : Calls Tryd.prog 37 #[.string a, .string b] w fun e w' => e = .returned (.int .i64 (cmpB a b)) ∧ w = w' := by
  have HN := hid (fun s w => nan_any s w)
  rcases cmpB_cases a b with ⟨h1, h2⟩ | ⟨h1, h2, h3⟩ | ⟨h1, h2, h3⟩
  all_goals
    rw [h1]
    clear h1
    go_enter Tryd.func37, Tryd.ntmps37
    go_wp2_with fail
    refine (HN.out _ _).mono ?_
    rintro e w' ⟨rfl, rfl⟩
    go_wp2_with fail
    refine (HN.out _ _).mono ?_
    rintro e w' ⟨rfl, rfl⟩
    go_wp2_with fail
    go_ret
    exact ⟨rfl, rfl⟩
theorem lexC_drop {a b : List ByteArray} {k : Nat} (h : a.take k = b.take k) (ha : k ≤ a.length) (hb : k ≤ b.length) : cmpCh a b = lexC cmpB (a.drop k) (b.drop k) := by
  induction k generalizing a b with
  | zero => rfl
  | succ k ih =>
    cases a with
    | nil => simp at ha
    | cons x a =>
      cases b with
      | nil => simp at hb
      | cons y b =>
        simp only [List.take_succ_cons, List.cons.injEq] at h
        obtain ⟨rfl, h⟩ := h
        simp only [List.length_cons] at ha hb
        have := ih h (by omega) (by omega)
        unfold cmpCh at this ⊢
        rw [lexC, if_pos ((bytes_good.zero x x).2 rfl), this]; rfl
set_option maxHeartbeats 2000000 in
set_option maxRecDepth 100000 in
theorem compare_any (ao bo : Option Addr) (ca cb : Nat) (a b : List ByteArray) (w : World) (hA : SlV w ao (strsV a)) (hB : SlV w bo (strsV b)) (ha : a.length ≤ 100000) (hb : b.length ≤ 100000) :
    Calls Tryd.prog 29 #[.slice ao a.length ca, .slice bo b.length cb] w fun e w' => e = .returned (.int .i64 (cmpCh a b)) ∧ w = w' := by
  obtain ⟨C, HC⟩ : ∃ C, Hid (cmpCh a b = C) := ⟨_, hid rfl⟩
  rw [HC.out]
  generalize hn : a.length = n at *
  generalize hm : b.length = m at *
  have HNM := hid (And.intro hn hm)
  clear hn hm
  go_enter Tryd.func29, Tryd.ntmps29
  go_wp2_with fail
  go_loopw [11] (fun s11 wr => ∃ k : Nat, s11 = .int .i64 k ∧ k ≤ n ∧ k ≤ m ∧ Hid (a.take k = b.take k) ∧ w = wr) (fun s11 _ => n - (intOf s11).toNat)
  case atStart => exact ⟨0, rfl, by omega, by omega, hid (by simp), rfl⟩
  case round =>
    obtain ⟨k, rfl, hk, hkm, HT, rfl⟩ := hrel
    obtain ⟨hn, hm⟩ := HNM.out
    have HL := hid (lexC_drop HT.out (by omega) (by omega))
    by_cases hkn : k < n
    · obtain ⟨x, hx⟩ : ∃ x, a[k]? = some x := ⟨_, List.getElem?_eq_getElem (by omega)⟩
      obtain ⟨b1, o1, e1, hb1, c1⟩ := hA.cell k (.string x) (by unfold strsV; rw [List.getElem?_map, hx]; rfl)
      subst e1
      by_cases hkm2 : k < m
      · obtain ⟨y, hy⟩ : ∃ y, b[k]? = some y := ⟨_, List.getElem?_eq_getElem (by omega)⟩
        obtain ⟨b2, o2, e2, hb2, c2⟩ := hB.cell k (.string y) (by unfold strsV; rw [List.getElem?_map, hy]; rfl)
        subst e2
        have HX := hid hx
        have HY := hid hy
        have HCM := hid (fun w => cmp_any x y w)
        have hL2 : Hid (C = if cmpB x y = 0 then lexC cmpB (a.drop (k + 1)) (b.drop (k + 1)) else cmpB x y) := by
          unfold Hid
          rw [← HC.out, HL.out, List.drop_eq_getElem_cons (l := a) (i := k) (by omega), List.drop_eq_getElem_cons (l := b) (i := k) (by omega), lexC]
          have h1 : a[k] = x := by rw [List.getElem?_eq_getElem (by omega)] at hx; exact Option.some.inj hx
          have h2 : b[k] = y := by rw [List.getElem?_eq_getElem (by omega)] at hy; exact Option.some.inj hy
          rw [h1, h2]
        clear hx hy hb1 hb2 hn hm
        have hkI : ¬ ((m : Int) ≤ (k : Int)) := by omega
        by_cases hz : cmpB x y = 0
        · rw [hz] at HCM
          have hxy := (bytes_good.zero x y).1 hz
          have HT2 : Hid (a.take (k + 1) = b.take (k + 1)) := by
            unfold Hid
            rw [List.take_add_one, List.take_add_one, HX.out, HY.out, HT.out, hxy]
          clear hz hxy
          go_wp2_with fail
          refine (HCM.out _).mono ?_
          rintro e w' ⟨rfl, rfl⟩
          go_wp2_with fail
          go_roundw
          case rel => exact ⟨k + 1, by go_num, by omega, by omega, HT2, by trivial⟩
          case measure => simp [intOf]; omega
        · have HZ := hid hz
          have hzb : (cmpB x y != 0) = true := by simpa using hz
          have hzb2 : (cmpB x y == 0) = false := by simpa using hz
          generalize cmpB x y = c at *
          clear hz
          go_wp2_with fail
          refine (HCM.out _).mono ?_
          rintro e w' ⟨rfl, rfl⟩
          go_wp2_with fail
          go_ret
          refine ⟨ret_int ?_, by trivial⟩
          rw [hL2.out, if_neg HZ.out]
      · have hC : Hid (C = 1) := by
          unfold Hid
          rw [← HC.out, HL.out, List.drop_eq_getElem_cons (l := a) (i := k) (by omega), List.drop_eq_nil_of_le (by omega : b.length ≤ k)]; rfl
        have hkI : (m : Int) ≤ (k : Int) := by omega
        clear hx hb1 hn hm
        go_wp2_with fail
        go_ret
        exact ⟨ret_int (by rw [hC.out]), by trivial⟩
    · have hke : k = n := by omega
      subst hke
      rw [List.drop_eq_nil_of_le (by omega : a.length ≤ k)] at HL
      by_cases hkm2 : k < m
      · have hC : Hid (C = -1) := by
          unfold Hid
          rw [← HC.out, HL.out, List.drop_eq_getElem_cons (l := b) (i := k) (by omega)]; rfl
        clear hn hm
        go_wp2_with fail
        go_ret
        exact ⟨ret_int (by rw [hC.out]), by trivial⟩
      · have hC : Hid (C = 0) := by
          unfold Hid
          rw [← HC.out, HL.out, List.drop_eq_nil_of_le (by omega : b.length ≤ k)]; rfl
        clear hn hm
        go_wp2_with fail
        go_ret
        exact ⟨ret_int (by rw [hC.out]), by trivial⟩
/-- a clone, nil's apart -/
theorem clone_any (ao : Option Addr) (cap : Nat) (l : List ByteArray) (w : World) (h : SlV w ao (strsV l)) (hne : l ≠ []) (hl : l.length ≤ 100000) :
    Calls Tryd.prog 28 #[.slice ao l.length cap] w fun e w' => ∃ v', e = .returned v' ∧ Mine w.heap.size w w' 9 v' (strsV l) := by
  obtain ⟨x, hx⟩ : ∃ x, l[0]? = some x := ⟨_, List.getElem?_eq_getElem (by cases l; exact absurd rfl hne; simp)⟩
  obtain ⟨b, off, rfl, hb, c⟩ := h.cell 0 (.string x) (by unfold strsV; rw [List.getElem?_map, hx]; rfl)
  refine (Tryd.slices_Clone_string b off l.length cap l w (Nat.le_refl _) (by omega) (fun j hj => ?_)).mono ?_
  · obtain ⟨b', o', e, _, cj⟩ := h.cell j (.string (l.getD j ByteArray.empty)) (by unfold strsV; rw [List.getElem?_map, List.getD, List.getElem?_eq_getElem hj]; rfl)
    cases e
    exact cj
  · rintro e w' ⟨v', rfl, hown, _, hB⟩
    rw [List.take_length] at hown
    refine ⟨v', rfl, ?_, hB, hB.size⟩
    unfold strsV
    rw [List.length_map]; exact hown
end Go.Proofs.YtgkgpfennlkcnaaDoor
