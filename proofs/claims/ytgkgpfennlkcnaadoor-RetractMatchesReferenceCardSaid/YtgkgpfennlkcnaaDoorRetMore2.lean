/- RetractMore: the walk -/
import Derived.Test.YtgkgpfennlkcnaaDoorRetMore
namespace Go.Proofs.YtgkgpfennlkcnaaDoor
open Go.RowKit

theorem strs_one1 (l : List ByteArray) : ∀ u ∈ strsV l, u.oneCell' = true := by
  intro u hu
  unfold strsV at hu
  obtain ⟨s, _, rfl⟩ := List.mem_map.1 hu
  rfl
theorem mine_strs {B : Nat} {w0 w : World} {E : TypeId} {ao : Option Addr} {k c : Nat} {xs : List Value} (h : Mine B w0 w E (.slice ao k c) xs) {R : List ByteArray} (hx : xs = strsV R) : SlV w ao (strsV R) ∧ R.length = k := by
  subst hx
  obtain ⟨ao', cap', e, hs, _⟩ := h.slv
  cases e
  exact ⟨hs, by simp [strsV]⟩
theorem few_most {L : List Ent} {R : List ByteArray} (h : fewR L R = true) : R.length ≤ 1002 := by
  unfold fewR few01 at h
  simp only [Bool.and_eq_true, Bool.or_eq_true, decide_eq_true_eq] at h
  omega
set_option maxHeartbeats 4000000 in
set_option maxRecDepth 100000 in
theorem more_walk (ao oo tt : Option Addr) (cap co ct : Nat) (L : List Ent) (O T : List ByteArray) (w : World) (hE : L.length ≤ 1000 → Ents w ao L) (hlm : L.length ≤ maxLen) (hO : SlV w oo (strsV O)) (hT : SlV w tt (strsV T)) (hno : oo = none → co = 0) (hnt : tt = none → ct = 0) :
    Calls Tryd.prog 4 #[.slice ao L.length cap, .slice oo O.length co, .slice tt T.length ct] w fun e w' => e = .returned (.bool true) ∧ Below w.heap.size w w' := by
  have hol : O.length ≤ 9223372036854775807 := by have := hO.len; unfold strsV maxLen at this; rw [List.length_map] at this; omega
  have htl : T.length ≤ 9223372036854775807 := by have := hT.len; unfold strsV maxLen at this; rw [List.length_map] at this; omega
  cases h1 : fewR L O with
  | false =>
    go_enter Tryd.func4, Tryd.ntmps4  ;go_wp2_with fail  ;refine (head_any w).mono ?_  ;rintro e w1 ⟨rfl, hB⟩  ;go_wp2_with fail  ;refine (few_any _ _ _ _ L O w1 (fun h => (hE h).below hB) hlm (hO.below hB)).mono ?_  ;rintro e w2 ⟨rfl, rfl⟩
    rw [h1]
    go_wp2_with fail
    go_ret
    exact ⟨rfl, hB⟩
  | true =>
    cases h2 : fewR L T with
    | false =>
      go_enter Tryd.func4, Tryd.ntmps4  ;go_wp2_with fail  ;refine (head_any w).mono ?_  ;rintro e w1 ⟨rfl, hB⟩  ;go_wp2_with fail  ;refine (few_any _ _ _ _ L O w1 (fun h => (hE h).below hB) hlm (hO.below hB)).mono ?_  ;rintro e w2 ⟨rfl, rfl⟩
      rw [h1]
      go_wp2_with fail
      refine (few_any _ _ _ _ L T w1 (fun h => (hE h).below hB) hlm (hT.below hB)).mono ?_
      rintro e w2 ⟨rfl, rfl⟩
      rw [h2]
      go_wp2_with fail
      go_ret
      exact ⟨rfl, hB⟩
    | true =>
      have h4 := few_most h1
      have h5 := few_most h2
      by_cases h3 : 60 < O.length + T.length
      · have h3I : (60 : Int) < (O.length : Int) + (T.length : Int) := by omega
        go_enter Tryd.func4, Tryd.ntmps4  ;go_wp2_with fail  ;refine (head_any w).mono ?_  ;rintro e w1 ⟨rfl, hB⟩  ;go_wp2_with fail  ;refine (few_any _ _ _ _ L O w1 (fun h => (hE h).below hB) hlm (hO.below hB)).mono ?_  ;rintro e w2 ⟨rfl, rfl⟩
        rw [h1]
        go_wp2_with fail
        refine (few_any _ _ _ _ L T w1 (fun h => (hE h).below hB) hlm (hT.below hB)).mono ?_
        rintro e w2 ⟨rfl, rfl⟩
        rw [h2]
        go_wp2_with fail
        go_ret
        exact ⟨rfl, hB⟩
      have h3I : ¬ (60 : Int) < (O.length : Int) + (T.length : Int) := by omega
      obtain ⟨hS, hl12⟩ := few_small (few_cut h1)
      have hfew := h2
      have hfewA : ∀ w1, Below w.heap.size w w1 → Calls Tryd.prog 9 #[.slice ao L.length cap, .slice tt T.length ct] w1 fun e w' => e = .returned (.bool true) ∧ w1 = w' := by
        intro w1 hB
        have := few_any ao tt cap ct L T w1 (fun h => (hE h).below hB) hlm (hT.below hB)
        rw [h2] at this
        exact this
      have hfewB : ∀ w1, Below w.heap.size w w1 → Calls Tryd.prog 9 #[.slice ao L.length cap, .slice oo O.length co] w1 fun e w' => e = .returned (.bool true) ∧ w1 = w' := by
        intro w1 hB
        have := few_any ao oo cap co L O w1 (fun h => (hE h).below hB) hlm (hO.below hB)
        rw [h1] at this
        exact this
      replace hE := hE (by omega)
      cases hv : validB L with
      | false =>
        have HS := hid (fun (ao ro : Option Addr) (cap rc n : Nat) (R : List ByteArray) (w : World) => supp_bad hv hS (ao := ao) (ro := ro) (cap := cap) (rc := rc) (n := n) (R := R) (w := w))
        have HN := hid (fun (ao ro : Option Addr) (cap rc n : Nat) (R : List ByteArray) (w : World) => taint_bad hv hS (ao := ao) (ro := ro) (cap := cap) (rc := rc) (n := n) (R := R) (w := w))
        clear h1 h2 hv hfew hS
        generalize hon : O.length = n at *
        generalize htn : T.length = m at *
        generalize hln : L.length = l at *
        go_enter Tryd.func4, Tryd.ntmps4
        go_wp2_with fail
        refine (head_any w).mono ?_
        rintro e w1 ⟨rfl, hB⟩
        go_wp2_with fail
        refine (hfewB w1 hB).mono ?_
        rintro e w2 ⟨rfl, rfl⟩
        go_wp2_with fail
        refine (hfewA w1 hB).mono ?_
        rintro e w2 ⟨rfl, rfl⟩
        clear hfewA hfewB
        go_wp2_with fail
        replace hE := hE.below hB
        replace hO := hO.below hB
        replace hT := hT.below hB
        refine (HS.out _ _ _ _ _ _ _ hon hE hO (by omega)).mono ?_
        rintro e w2 ⟨b1, c1, rfl, hB1⟩
        replace hB := hB.trans (hB1.mono hB.size)  ;replace hE := hE.below hB1  ;replace hO := hO.below hB1  ;replace hT := hT.below hB1
        clear hB1
        have hm0 : Mine w2.heap.size w2 (w2.alloc (.cells #[] 9)) 9 _ [] := Mine.empty (Below.refl _ _) (Nat.le_refl _)
        have hx0 := hO.below (below_alloc w2 (.cells #[] 9))
        go_wp2_with (first
          | (at_builtin; refine wpl_apps rfl (.tmp 50) (.tmp 51) 23 rfl 9 _ _ Tryd.ulStrs Tryd.inStr rfl _ _ _ _ hm0 rfl _ _ _ (n) (by simp [strsV, hon]) hx0 hno (strs_one1 _) rfl (n) (by simp [strsV, hon, htn]) (by unfold maxLen; omega) (by omega) ?_; intro ap1 cp1 wm1 hm1 hg1; have hx1 := hT.below hm1.below)
          | (at_builtin; refine wpl_apps rfl (.tmp 52) (.tmp 53) 23 rfl 9 _ _ Tryd.ulStrs Tryd.inStr rfl _ _ _ _ hm1 rfl _ _ _ (m) (by simp [strsV, htn]) hx1 hnt (strs_one1 _) rfl (n + m) (by simp [strsV, hon, htn]) (by unfold maxLen; omega) (by omega) ?_; intro ap2 cp2 wm2 hm2 hg2))
        obtain ⟨hq, hql⟩ := mine_strs hm2 (R := O ++ T) (by simp [strsV])
        have hBm := hm2.below
        clear hm0 hx0 hm1 hg1 hm2 hg2 hx1
        refine (HS.out _ _ _ _ _ _ _ hql (hE.below hBm) hq (by omega)).mono ?_
        rintro e w3 ⟨b2, c2, rfl, hB1⟩
        replace hB1 := bthen hBm hB1
        clear hBm hq hql
        replace hB := hB.trans (hB1.mono hB.size)  ;replace hE := hE.below hB1  ;replace hO := hO.below hB1  ;replace hT := hT.below hB1
        clear hB1
        have hm0 : Mine w3.heap.size w3 (w3.alloc (.cells #[] 9)) 9 _ [] := Mine.empty (Below.refl _ _) (Nat.le_refl _)
        have hx0 := hT.below (below_alloc w3 (.cells #[] 9))
        go_wp2_with (first
          | (at_builtin; refine wpl_apps rfl (.tmp 60) (.tmp 61) 23 rfl 9 _ _ Tryd.ulStrs Tryd.inStr rfl _ _ _ _ hm0 rfl _ _ _ (m) (by simp [strsV, htn]) hx0 hnt (strs_one1 _) rfl (m) (by simp [strsV, htn, hon, htn]) (by unfold maxLen; omega) (by omega) ?_; intro ap1 cp1 wm1 hm1 hg1; have hx1 := hO.below hm1.below)
          | (at_builtin; refine wpl_apps rfl (.tmp 62) (.tmp 63) 23 rfl 9 _ _ Tryd.ulStrs Tryd.inStr rfl _ _ _ _ hm1 rfl _ _ _ (n) (by simp [strsV, hon]) hx1 hno (strs_one1 _) rfl (m + n) (by simp [strsV, htn, hon, htn]) (by unfold maxLen; omega) (by omega) ?_; intro ap2 cp2 wm2 hm2 hg2; have hx2 := hT.below hm2.below)
          | (at_builtin; refine wpl_apps rfl (.tmp 64) (.tmp 65) 23 rfl 9 _ _ Tryd.ulStrs Tryd.inStr rfl _ _ _ _ hm2 rfl _ _ _ (m) (by simp [strsV, htn]) hx2 hnt (strs_one1 _) rfl (m + n + m) (by simp [strsV, htn, hon, htn]) (by unfold maxLen; omega) (by omega) ?_; intro ap3 cp3 wm3 hm3 hg3))
        obtain ⟨hq, hql⟩ := mine_strs hm3 (R := T ++ O ++ T) (by simp [strsV])
        have hBm := hm3.below
        clear hm0 hx0 hm1 hg1 hm2 hg2 hm3 hg3 hx1 hx2
        refine (HS.out _ _ _ _ _ _ _ hql (hE.below hBm) hq (by omega)).mono ?_
        rintro e w4 ⟨b3, c3, rfl, hB1⟩
        replace hB1 := bthen hBm hB1
        clear hBm hq hql
        replace hB := hB.trans (hB1.mono hB.size)  ;replace hE := hE.below hB1  ;replace hO := hO.below hB1  ;replace hT := hT.below hB1
        clear hB1
        go_wp2_with fail
        refine (HN.out _ _ _ _ _ _ _ hon hE hO (by omega)).mono ?_
        rintro e w5 ⟨b4, c4, rfl, hB1⟩
        replace hB := hB.trans (hB1.mono hB.size)  ;replace hE := hE.below hB1  ;replace hO := hO.below hB1  ;replace hT := hT.below hB1
        clear hB1
        go_wp2_with fail
        go_ret
        exact ⟨rfl, hB⟩
      | true =>
        have HS := hid (fun (ao ro : Option Addr) (cap rc n : Nat) (R : List ByteArray) (w : World) => supp_ok hv hS (ao := ao) (ro := ro) (cap := cap) (rc := rc) (n := n) (R := R) (w := w))
        have HN := hid (fun (ao ro : Option Addr) (cap rc n : Nat) (R : List ByteArray) (w : World) => taint_ok hv hS (ao := ao) (ro := ro) (cap := cap) (rc := rc) (n := n) (R := R) (w := w))
        have htl1 : (taintL L O).length ≤ 12 := Nat.le_trans taintL_le hl12
        have HT0 := hid (taint_taint (L := L) (R := O))
        have HT1 := hid (sup_taint (L := L) (R := O))
        have HC := hid (supL_congr (L := L) (R := T ++ O ++ T) (R' := O ++ T) (fun x => by simp only [List.mem_append]; exact ⟨fun q => q.elim (fun q => q.symm) Or.inr, fun q => q.elim (fun q => Or.inl (Or.inr q)) Or.inr⟩))
        have HLA := hid (supL_len L O)
        have HLB := hid (supL_len L (O ++ T))
        have HSUB := hid (fun (i : Nat) (h : (supL L (O ++ T))[i]? = some true) => sub_at h)
        clear h1 h2 hv hfew hS
        generalize hon : O.length = n at *
        generalize htn : T.length = m at *
        generalize hln : L.length = l at *
        go_enter Tryd.func4, Tryd.ntmps4
        go_wp2_with fail
        refine (head_any w).mono ?_
        rintro e w1 ⟨rfl, hB⟩
        go_wp2_with fail
        refine (hfewB w1 hB).mono ?_
        rintro e w2 ⟨rfl, rfl⟩
        go_wp2_with fail
        refine (hfewA w1 hB).mono ?_
        rintro e w2 ⟨rfl, rfl⟩
        clear hfewA hfewB
        go_wp2_with fail
        replace hE := hE.below hB
        replace hO := hO.below hB
        replace hT := hT.below hB
        refine (HS.out _ _ _ _ _ _ _ hon hE hO (by omega)).mono ?_
        rintro e w2 ⟨b1, c1, rfl, hs1, hB1⟩
        replace hB := hB.trans (hB1.mono hB.size)  ;replace hE := hE.below hB1  ;replace hO := hO.below hB1  ;replace hT := hT.below hB1
        clear hB1
        have hm0 : Mine w2.heap.size w2 (w2.alloc (.cells #[] 9)) 9 _ [] := Mine.empty (Below.refl _ _) (Nat.le_refl _)
        have hx0 := hO.below (below_alloc w2 (.cells #[] 9))
        go_wp2_with (first
          | (at_builtin; refine wpl_apps rfl (.tmp 50) (.tmp 51) 23 rfl 9 _ _ Tryd.ulStrs Tryd.inStr rfl _ _ _ _ hm0 rfl _ _ _ (n) (by simp [strsV, hon]) hx0 hno (strs_one1 _) rfl (n) (by simp [strsV, hon, htn]) (by unfold maxLen; omega) (by omega) ?_; intro ap1 cp1 wm1 hm1 hg1; have hx1 := hT.below hm1.below)
          | (at_builtin; refine wpl_apps rfl (.tmp 52) (.tmp 53) 23 rfl 9 _ _ Tryd.ulStrs Tryd.inStr rfl _ _ _ _ hm1 rfl _ _ _ (m) (by simp [strsV, htn]) hx1 hnt (strs_one1 _) rfl (n + m) (by simp [strsV, hon, htn]) (by unfold maxLen; omega) (by omega) ?_; intro ap2 cp2 wm2 hm2 hg2))
        obtain ⟨hq, hql⟩ := mine_strs hm2 (R := O ++ T) (by simp [strsV])
        have hBm := hm2.below
        clear hm0 hx0 hm1 hg1 hm2 hg2 hx1
        refine (HS.out _ _ _ _ _ _ _ hql (hE.below hBm) hq (by omega)).mono ?_
        rintro e w3 ⟨b2, c2, rfl, hs2, hB1⟩
        replace hB1 := bthen hBm hB1
        clear hBm hq hql
        replace hB := hB.trans (hB1.mono hB.size)  ;replace hE := hE.below hB1  ;replace hO := hO.below hB1  ;replace hT := hT.below hB1
        replace hs1 := hs1.below hB1
        clear hB1
        have hm0 : Mine w3.heap.size w3 (w3.alloc (.cells #[] 9)) 9 _ [] := Mine.empty (Below.refl _ _) (Nat.le_refl _)
        have hx0 := hT.below (below_alloc w3 (.cells #[] 9))
        go_wp2_with (first
          | (at_builtin; refine wpl_apps rfl (.tmp 60) (.tmp 61) 23 rfl 9 _ _ Tryd.ulStrs Tryd.inStr rfl _ _ _ _ hm0 rfl _ _ _ (m) (by simp [strsV, htn]) hx0 hnt (strs_one1 _) rfl (m) (by simp [strsV, htn, hon, htn]) (by unfold maxLen; omega) (by omega) ?_; intro ap1 cp1 wm1 hm1 hg1; have hx1 := hO.below hm1.below)
          | (at_builtin; refine wpl_apps rfl (.tmp 62) (.tmp 63) 23 rfl 9 _ _ Tryd.ulStrs Tryd.inStr rfl _ _ _ _ hm1 rfl _ _ _ (n) (by simp [strsV, hon]) hx1 hno (strs_one1 _) rfl (m + n) (by simp [strsV, htn, hon, htn]) (by unfold maxLen; omega) (by omega) ?_; intro ap2 cp2 wm2 hm2 hg2; have hx2 := hT.below hm2.below)
          | (at_builtin; refine wpl_apps rfl (.tmp 64) (.tmp 65) 23 rfl 9 _ _ Tryd.ulStrs Tryd.inStr rfl _ _ _ _ hm2 rfl _ _ _ (m) (by simp [strsV, htn]) hx2 hnt (strs_one1 _) rfl (m + n + m) (by simp [strsV, htn, hon, htn]) (by unfold maxLen; omega) (by omega) ?_; intro ap3 cp3 wm3 hm3 hg3))
        obtain ⟨hq, hql⟩ := mine_strs hm3 (R := T ++ O ++ T) (by simp [strsV])
        have hBm := hm3.below
        clear hm0 hx0 hm1 hg1 hm2 hg2 hm3 hg3 hx1 hx2
        refine (HS.out _ _ _ _ _ _ _ hql (hE.below hBm) hq (by omega)).mono ?_
        rintro e w4 ⟨b3, c3, rfl, hs3, hB1⟩
        rw [HC.out] at hs3
        replace hB1 := bthen hBm hB1
        clear hBm hq hql
        replace hB := hB.trans (hB1.mono hB.size)  ;replace hE := hE.below hB1  ;replace hO := hO.below hB1  ;replace hT := hT.below hB1
        replace hs1 := hs1.below hB1
        replace hs2 := hs2.below hB1
        clear hB1
        go_wp2_with fail
        refine (HN.out _ _ _ _ _ _ _ hon hE hO (by omega)).mono ?_
        rintro e w5 ⟨b4, c4, rfl, hs4, hB1, hn4⟩
        replace hB := hB.trans (hB1.mono hB.size)  ;replace hE := hE.below hB1  ;replace hO := hO.below hB1  ;replace hT := hT.below hB1
        replace hs1 := hs1.below hB1
        replace hs2 := hs2.below hB1
        replace hs3 := hs3.below hB1
        clear hB1
        go_wp2_with fail
        have hby := bools_yes b2 b3 c2 c3 (supL L (O ++ T)) w5 hs2 hs3 (by rw [HLB.out]; omega)
        rw [HLB.out] at hby
        refine hby.mono ?_
        rintro e w6 ⟨rfl, hB1⟩
        clear hby
        replace hB := hB.trans (hB1.mono hB.size)  ;replace hE := hE.below hB1  ;replace hO := hO.below hB1  ;replace hT := hT.below hB1
        replace hs1 := hs1.below hB1
        replace hs2 := hs2.below hB1
        replace hs4 := hs4.below hB1
        clear hB1 hs3
        generalize supL L (O ++ T) = C at *
        generalize hA : supL L O = A at *
        generalize htt : taintL L O = D at *
        generalize hdl : D.length = d at *
        go_wp2_with fail
        go_loopw [16] (fun s16 wr => ∃ k : Nat, s16 = .int .i64 k ∧ k ≤ l ∧ w6 = wr) (fun s16 _ => l - (intOf s16).toNat)
        case atStart => exact ⟨0, rfl, by omega, rfl⟩
        case round =>
          obtain ⟨k, rfl, hk, rfl⟩ := hrel
          by_cases hkl : k < l
          · obtain ⟨x, hx⟩ : ∃ x, A[k]? = some x := ⟨_, List.getElem?_eq_getElem (by rw [HLA.out]; exact hkl)⟩
            obtain ⟨y, hy⟩ : ∃ x, C[k]? = some x := ⟨_, List.getElem?_eq_getElem (by rw [HLB.out]; exact hkl)⟩
            have hxy : y = true → x = true := by
              intro q
              subst q
              have := HSUB.out k hy
              rw [hx] at this
              exact Option.some.inj this
            obtain ⟨g1, o1, e1, _, d1⟩ := hs1.cell k (.bool x) (by unfold bools; rw [List.getElem?_map, hx]; rfl)
            obtain ⟨g2, o2, e2, _, d2⟩ := hs2.cell k (.bool y) (by unfold bools; rw [List.getElem?_map, hy]; rfl)
            subst e1 e2
            have hkI : (k : Int) < (l : Int) := by omega
            clear hx hy
            cases y
            · go_wp2_with fail
              go_roundw
              case rel => exact ⟨k + 1, by go_num, by omega, by trivial⟩
              case measure => simp [intOf]; omega
            · have := hxy rfl
              subst this
              go_wp2_with fail
              go_roundw
              case rel => exact ⟨k + 1, by go_num, by omega, by trivial⟩
              case measure => simp [intOf]; omega
          · have hkI : ¬ (k : Int) < (l : Int) := by omega
            have hm0 : Mine w6.heap.size w6 (w6.alloc (.cells #[] 9)) 9 _ [] := Mine.empty (Below.refl _ _) (Nat.le_refl _)
            have hx0 := hO.below (below_alloc w6 (.cells #[] 9))
            go_wp2_with (first
              | (at_builtin; refine wpl_apps rfl (.tmp 134) (.tmp 135) 23 rfl 9 _ _ Tryd.ulStrs Tryd.inStr rfl _ _ _ _ hm0 rfl _ _ _ (n) (by simp [strsV, hon]) hx0 hno (strs_one1 _) rfl (n) (by simp [strsV, hon, hdl]) (by unfold maxLen; omega) (by omega) ?_; intro ap1 cp1 wm1 hm1 hg1; have hx1 := hs4.below hm1.below)
              | (at_builtin; refine wpl_apps rfl (.tmp 136) (.tmp 137) 23 rfl 9 _ _ Tryd.ulStrs Tryd.inStr rfl _ _ _ _ hm1 rfl _ _ _ (d) (by simp [strsV, hdl]) hx1 hn4 (strs_one1 _) rfl (n + d) (by simp [strsV, hon, hdl]) (by unfold maxLen; omega) (by omega) ?_; intro ap2 cp2 wm2 hm2 hg2))
            obtain ⟨hq, hql⟩ := mine_strs hm2 (R := O ++ D) (by simp [strsV])
            have hBm := hm2.below
            clear hm0 hx0 hm1 hg1 hm2 hg2 hx1
            refine (HS.out _ _ _ _ _ _ _ hql (hE.below hBm) hq (by omega)).mono ?_
            rintro e w7 ⟨b5, c5, rfl, hs5, hB1⟩
            rw [HT1.out] at hs5
            replace hq := hq.below hB1
            replace hB1 := bthen hBm hB1
            clear hBm
            replace hB := hB.trans (hB1.mono hB.size)  ;replace hE := hE.below hB1  ;replace hO := hO.below hB1  ;replace hT := hT.below hB1
            replace hs1 := hs1.below hB1
            clear hB1
            go_wp2_with fail
            refine (HN.out _ _ _ _ _ _ _ hql hE hq (by omega)).mono ?_
            rintro e w8 ⟨b6, c6, rfl, -, hB1, -⟩
            rw [HT0.out]
            replace hB := hB.trans (hB1.mono hB.size)  ;replace hE := hE.below hB1  ;replace hO := hO.below hB1  ;replace hT := hT.below hB1
            replace hs1 := hs1.below hB1
            replace hs5 := hs5.below hB1
            clear hB1
            go_wp2_with fail
            have hby := bools_yes b5 b1 c5 c1 A w8 hs5 hs1 (by rw [HLA.out]; omega)
            rw [HLA.out] at hby
            refine hby.mono ?_
            rintro e w9 ⟨rfl, hB1⟩
            clear hby
            replace hB := hB.trans (hB1.mono hB.size)  ;replace hE := hE.below hB1  ;replace hO := hO.below hB1  ;replace hT := hT.below hB1
            go_wp2_with fail
            go_ret
            exact ⟨rfl, hB⟩
theorem more_law (a0 : Option Addr) (len0 cap0 : Nat) (z0 : List Ent) (a1 : Option Addr) (len1 cap1 : Nat) (z1 : List ByteArray) (a2 : Option Addr) (len2 cap2 : Nat) (z2 : List ByteArray) (W : World) (w0 : EntsArg W a0 len0 cap0 z0) (w1 : StrsArg W a1 len1 cap1 z1) (w2 : StrsArg W a2 len2 cap2 z2) :
    Calls Tryd.prog 4 #[.slice a0 len0 cap0, .slice a1 len1 cap1, .slice a2 len2 cap2] W fun e w' => e = .returned (.bool true) ∧ Below W.heap.size W w' := by
  have h0 := w0.hlen
  have h1 := w1.hlen
  have h2 := w2.hlen
  subst h0 h1 h2
  exact more_walk a0 a1 a2 cap0 cap1 cap2 z0 z1 z2 W w0.ents (Nat.le_trans w0.hcap w0.hmax) w1.slv w2.slv w1.hnil w2.hnil
end Go.Proofs.YtgkgpfennlkcnaaDoor
