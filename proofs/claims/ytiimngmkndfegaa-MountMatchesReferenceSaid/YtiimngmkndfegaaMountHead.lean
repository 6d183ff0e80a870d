import Derived.Test.YtiimngmkndfegaaMountMove
namespace Go.Proofs.Ytiimngmkndfegaa
open Go.RowKit

set_option maxHeartbeats 400000 in
theorem ints_any (ao bo : Option Addr) (ca cb : Nat) (l m : List Int) (w : World) (hl : SlI w ao l) (hm : SlI w bo m) :
    Calls Try.prog 15 #[.slice ao l.length ca, .slice bo m.length cb] w fun e w' => e = .returned (.bool (decide (l = m))) ∧ Below w.heap.size w w' := by
  have hml := hl.len
  unfold maxLen at hml
  by_cases hlen : l.length = m.length
  · have hb1 : ((l.length : Int) != (m.length : Int)) = false := by rw [hlen]; simp
    have HL := hid hlen
    clear hlen
    go_enter Try.func15, Try.ntmps15
    go_wp2
    go_loopw [5] (fun s5 wr => ∃ k : Nat, s5 = .int .i64 k ∧ k ≤ l.length ∧ Chg (fun _ => False) w wr ∧ ∀ i, i < k → l[i]? = m[i]?) (fun s5 _ => l.length - (intOf s5).toNat)
    case atStart => exact ⟨0, rfl, by omega, Chg.refl _ _, by simp⟩
    case round =>
      obtain ⟨k, rfl, hk, hc, hsame⟩ := hrel
      have Hs := hid hsame
      clear hsame
      have hB : Below w.heap.size w wr := hc.toBelow (Nat.le_refl _) (fun _ h => h.elim)
      by_cases hlt : k < l.length
      · obtain ⟨x, hx⟩ : ∃ x, l[k]? = some x := ⟨_, List.getElem?_eq_getElem hlt⟩
        obtain ⟨y, hy⟩ : ∃ y, m[k]? = some y := ⟨_, List.getElem?_eq_getElem (by have := HL.out; omega)⟩
        obtain ⟨b, off, rfl, hb, hxc⟩ := (hl.below hB).cell k x hx
        obtain ⟨b2, off2, rfl, hb2, hyc⟩ := (hm.below hB).cell k y hy
        have Hx := hid hx
        have Hy := hid hy
        clear hx hy
        have hI1 : (k : Int) < (l.length : Int) := by omega
        have hI2 : (k : Int) < (m.length : Int) := by have := HL.out; omega
        cases ht : (x != y) with
        | true =>
          have HT := hid ht
          go_wp2
          refine wp_region_quiet_all (by kernel_rfl) (by kernel_rfl) ?_
          repeat (go_big_quiet_step (fail))
          refine wpQuiet_end ?_
          go_wp2
          go_ret
          refine ⟨ret_bool ?_, hB.drew⟩
          have hne := HT.out
          simp only [bne_iff_ne] at hne
          symm
          rw [decide_eq_false_iff_not]
          intro e
          apply hne
          have h1 := Hx.out
          rw [e, Hy.out] at h1
          exact (Option.some.inj h1).symm
        | false =>
          have HT := hid ht
          go_wp2
          refine wp_region_quiet_all (by kernel_rfl) (by kernel_rfl) ?_
          repeat (go_big_quiet_step (fail))
          refine wpQuiet_end ?_
          go_wp2
          go_roundw
          case rel =>
            refine ⟨k + 1, by go_num, by omega, hc.drew, fun i hi => ?_⟩
            by_cases hik : i = k
            · subst hik
              rw [Hx.out, Hy.out]
              have := HT.out
              simp only [bne_eq_false_iff_eq] at this
              rw [this]
            · exact Hs.out i (by omega)
          case measure => simp [intOf] <;> omega
      · obtain rfl : k = l.length := by omega
        go_wp2
        go_ret
        refine ⟨ret_bool ?_, hB⟩
        symm
        rw [decide_eq_true_iff]
        apply List.ext_getElem?
        intro i
        by_cases hi : i < l.length
        · exact Hs.out i hi
        · rw [List.getElem?_eq_none (by omega), List.getElem?_eq_none (by have := HL.out; omega)]
  · have hb1 : ((l.length : Int) != (m.length : Int)) = true := by simp; omega
    have hne : decide (l = m) = false := by rw [decide_eq_false_iff_not]; intro e; exact hlen (by rw [e])
    rw [hne]
    clear hlen hne
    go_enter Try.func15, Try.ntmps15
    go_wp2
    go_ret
    exact ⟨rfl, Below.refl _ _⟩

theorem ints_eq (ao bo : Option Addr) (ca cb n1 n2 : Nat) (l m : List Int) (w : World) (hl : SlI w ao l) (hm : SlI w bo m) (h : l = m) (h1 : l.length = n1) (h2 : m.length = n2) :
    Calls Try.prog 15 #[.slice ao n1 ca, .slice bo n2 cb] w fun e w' => e = .returned (.bool true) ∧ Below w.heap.size w w' := by
  subst h1 h2
  refine (ints_any ao bo ca cb l m w hl hm).mono fun e w' hh => ⟨by rw [hh.1, decide_eq_true h], hh.2⟩

theorem reach_yes (c : Int) (l : List Int) (w : World) (h0 : 0 ≤ c) (h1 : c < 32) (hl : reachL c = l) :
    Calls Try.prog 9 #[.int .i64 c] w fun e w' => ∃ ao cap, e = .returned (.tuple #[.slice ao l.length cap, .int .i64 0]) ∧ SlI w' ao l ∧ Below w.heap.size w w' := by
  subst hl
  refine (reach_any c w h0 h1).mono fun e w' ⟨v, he, hm⟩ => ?_
  obtain ⟨ao, cap, hv, hs⟩ := hm.sl
  exact ⟨ao, cap, by rw [he, hv], hs, hm.below⟩
theorem move_val (at0 c p d : Int) (w : World) (hk : planOk at0 [c] = true) (hp : (planL at0 [c]).headD 0 = p) (hd : lenF [c] at0 = d) :
    Calls Try.prog 11 #[.int .i64 at0, .int .i64 c] w fun e w' => e = .returned (.tuple #[.int .i64 p, .int .i64 d, .int .i64 0]) ∧ Below w.heap.size w w' := by
  subst hp hd; exact move_yes at0 c w hk
theorem plan_val (at0 : Int) (ao : Option Addr) (cap n : Nat) (cs l : List Int) (d : Int) (w : World) (hcs : SlI w ao cs) (hk : planOk at0 cs = true) (hn : cs.length = n) (hl : planL at0 cs = l) (hd : lenF cs at0 = d) :
    Calls Try.prog 13 #[.int .i64 at0, .slice ao n cap] w fun e w' => ∃ ao' cap', e = .returned (.tuple #[.slice ao' n cap', .int .i64 d, .int .i64 0]) ∧ SlI w' ao' l ∧ Below w.heap.size w w' := by
  subst hn hl hd; exact plan_yes at0 ao cap cs w hcs hk

set_option maxHeartbeats 1000000 in
set_option maxRecDepth 100000 in
theorem head_any (w : World) : Calls Try.prog 8 #[] w fun e w' => e = .returned (.bool true) ∧ Below w.heap.size w w' := by
  go_enter Try.func8, Try.ntmps8
  go_wp2_with fail
  refine (reach_yes 0 [-32, 0, 32] _ (by decide) (by decide) (by decide)).mono ?_
  rintro e w1 ⟨ao1, cap1, rfl, hs1, hB1⟩
  go_wp2_with fail
  refine (reach_yes 16 [-48, -16, 16, 48] _ (by decide) (by decide) (by decide)).mono ?_
  rintro e w2 ⟨ao2, cap2, rfl, hs2, hB2⟩
  go_wp2_with fail
  refine (move_val 0 31 (-1) 1 _ (by decide) (by decide) (by decide)).mono ?_
  rintro e w3 ⟨rfl, hB3⟩
  go_wp2_with fail
  refine (move_val 0 16 (-16) 16 _ (by decide) (by decide) (by decide)).mono ?_
  rintro e w4 ⟨rfl, hB4⟩
  go_wp2_with fail
  refine (move_val 48 17 17 31 _ (by decide) (by decide) (by decide)).mono ?_
  rintro e w5 ⟨rfl, hB5⟩
  go_wp2_with fail
  refine (plan_val 0 _ _ _ [16, 17] [-16, -15] 17 _ (SlI_lit w5 3 [16, 17] (by simp [maxLen])) (by decide) rfl (by decide) (by decide)).mono ?_
  rintro e w6 ⟨ao6, cap6, rfl, hs6, hB6⟩
  go_wp2_with fail
  refine (plan_val 0 _ _ _ [16, 15, 20] [-16, -17, -12] 22 _ (SlI_lit w6 3 [16, 15, 20] (by simp [maxLen])) (by decide) rfl (by decide) (by decide)).mono ?_
  rintro e w7 ⟨ao7, cap7, rfl, hs7, hB7⟩
  have hC6 := unalloc hB6
  have hC7 := unalloc hB7
  clear hB6 hB7
  have ha := ((((((hs1.below hB2).below hB3).below hB4).below hB5).below hC6).below hC7)
  have hb := (((((hs2.below hB3).below hB4).below hB5).below hC6).below hC7)
  have hc := hs6.below hC7
  go_wp2_with fail
  refine (ints_eq _ _ _ _ _ _ [-32, 0, 32] [-32, 0, 32] _ (ha.below (below_alloc _ _)) (SlI_lit w7 3 [-32, 0, 32] (by simp [maxLen])) rfl rfl rfl).mono ?_
  rintro e w8 ⟨rfl, hB8⟩
  have hC8 := unalloc hB8
  clear hB8
  go_wp2_with fail
  refine (ints_eq _ _ _ _ _ _ [-48, -16, 16, 48] [-48, -16, 16, 48] _ ((hb.below hC8).below (below_alloc _ _)) (SlI_lit w8 3 [-48, -16, 16, 48] (by simp [maxLen])) rfl rfl rfl).mono ?_
  rintro e w9 ⟨rfl, hB9⟩
  have hC9 := unalloc hB9
  clear hB9
  go_wp2_with fail
  refine (ints_eq _ _ _ _ _ _ [-16, -15] [-16, -15] _ (((hc.below hC8).below hC9).below (below_alloc _ _)) (SlI_lit w9 3 [-16, -15] (by simp [maxLen])) rfl rfl rfl).mono ?_
  rintro e w10 ⟨rfl, hB10⟩
  have hC10 := unalloc hB10
  clear hB10
  go_wp2_with fail
  refine (ints_eq _ _ _ _ _ _ [-16, -17, -12] [-16, -17, -12] _ ((((hs7.below hC8).below hC9).below hC10).below (below_alloc _ _)) (SlI_lit w10 3 [-16, -17, -12] (by simp [maxLen])) rfl rfl rfl).mono ?_
  rintro e w11 ⟨rfl, hB11⟩
  have hC11 := unalloc hB11
  clear hB11
  go_wp2_with fail
  go_ret
  exact ⟨rfl, bthen hB1 (bthen hB2 (bthen hB3 (bthen hB4 (bthen hB5 (bthen hC6 (bthen hC7 (bthen hC8 (bthen hC9 (bthen hC10 hC11)))))))))⟩
end Go.Proofs.Ytiimngmkndfegaa
