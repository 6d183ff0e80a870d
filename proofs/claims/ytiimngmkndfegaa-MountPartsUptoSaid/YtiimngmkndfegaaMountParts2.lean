import Derived.Test.YtiimngmkndfegaaMountParts
namespace Go.Proofs.Ytiimngmkndfegaa
open Go.RowKit




set_option maxHeartbeats 4000000 in
set_option maxRecDepth 100000 in
theorem parts_long (raw : Int) (ao bo : Option Addr) (ca cb : Nat) (la lb : List Int) (w : World) (r0 : 0 ≤ raw) (r1 : raw ≤ 255) (hA : SlV w ao (la.map (Value.int .u8))) (hB : SlV w bo (lb.map (Value.int .u8)))
    (ba : ∀ x ∈ la, 0 ≤ x ∧ x ≤ 255) (bb : ∀ x ∈ lb, 0 ≤ x ∧ x ≤ 255) (na : la.length ≤ 1048576) (nb : lb.length ≤ 1048576) (hlong : 40 < la.length + lb.length) :
    Calls Try.prog 7 #[.int .u8 raw, .slice ao la.length ca, .slice bo lb.length cb] w fun e w' => e = .returned (.bool true) ∧ Below w.heap.size w w' := by
  obtain ⟨at_, hat⟩ : ∃ at_, raw % 97 - 48 = at_ := ⟨_, rfl⟩
  have HAT := hid hat
  clear hat
  have HBA := hid ba
  have HBB := hid bb
  clear ba bb
  have hI : 40 < (la.length : Int) + (lb.length : Int) := by omega
  go_enter Try.func7, Try.ntmps7  ;go_wp2_with fail  ;refine (head_any _).mono ?_  ;rintro e w1 ⟨rfl, hB1⟩  ;go_wp2_with (go_at_call 16; refine (position_any _ _ r0 r1).mono ?_; rintro e w' ⟨rfl, rfl⟩)  ;rw [HAT.out]  ;refine (through_any _ _ la _ (hA.below hB1) HBA.out na).mono ?_  ;rintro e w2 ⟨ao2, cap2, rfl, hs2, hn2, hB2⟩  ;go_wp2_with fail  ;refine (through_any _ _ lb _ ((hB.below hB1).below hB2) HBB.out nb).mono ?_  ;rintro e w3 ⟨ao3, cap3, rfl, hs3, hn3, hB3⟩  ;go_wp2_with fail
  go_ret
  exact ⟨rfl, bthen hB1 (bthen hB2 hB3)⟩




set_option maxHeartbeats 4000000 in
set_option maxRecDepth 100000 in
theorem parts_zero (raw : Int) (ao bo : Option Addr) (ca cb : Nat) (la lb : List Int) (w : World) (r0 : 0 ≤ raw) (r1 : raw ≤ 255) (hA : SlV w ao (la.map (Value.int .u8))) (hB : SlV w bo (lb.map (Value.int .u8)))
    (ba : ∀ x ∈ la, 0 ≤ x ∧ x ≤ 255) (bb : ∀ x ∈ lb, 0 ≤ x ∧ x ≤ 255) (hlong : la.length + lb.length ≤ 40) :
    Calls Try.prog 7 #[.int .u8 raw, .slice ao la.length ca, .slice bo lb.length cb] w fun e w' => e = .returned (.bool true) ∧ Below w.heap.size w w' := by
  obtain ⟨at_, hat⟩ : ∃ at_, raw % 97 - 48 = at_ := ⟨_, rfl⟩
  have ha : -48 ≤ at_ ∧ at_ ≤ 48 := by omega
  have HAT := hid hat
  clear hat
  have HBA := hid ba
  have HBB := hid bb
  clear ba bb
  have hI : ¬ 40 < (la.length : Int) + (lb.length : Int) := by omega
  have na : la.length ≤ 1048576 := by omega
  have nb : lb.length ≤ 1048576 := by omega
  have hsa : la.length ≤ 40 := by omega
  have hsb : lb.length ≤ 40 := by omega
  have HLA := hid (show (thr la).length = la.length by simp [thr])
  have HLB := hid (show (thr lb).length = lb.length by simp [thr])
  obtain ⟨e, he⟩ : ∃ e, (planL at_ (thr la)).getLastD at_ = e := ⟨_, rfl⟩
  have hfa := parts_facts at_ (thr la) (thr lb) ha (thr_bd la) (thr_bd lb) (by rw [HLA.out, HLB.out]; exact hlong) e he
  have HE := hid hfa
  obtain ⟨_, hf1, hf2⟩ := hfa
  have hb1 := lenF_bd (thr la) at_
  have hb2 := lenF_bd (thr lb) e
  have hb3 := lenF_bd (thr la ++ thr lb) at_
  obtain ⟨n, hn⟩ : ∃ n, lenF (thr la) at_ = n := ⟨_, rfl⟩
  obtain ⟨m, hm⟩ : ∃ m, lenF (thr lb) e = m := ⟨_, rfl⟩
  obtain ⟨h, hh⟩ : ∃ h, lenF (thr la ++ thr lb) at_ = h := ⟨_, rfl⟩
  rw [hn] at hb1 hf1 hf2
  rw [hm] at hb2 hf2
  rw [hh] at hb3 hf1 hf2
  have HN := hid hn
  have HM := hid hm
  have HW := hid hh
  have HEE := hid he
  clear hn hm hh he
  have hI2 : ¬ h < n := by omega
  have hI3 : ¬ n + m < h := by omega
  have HAB := hid (show ∀ c ∈ thr la ++ thr lb, 0 ≤ c ∧ c < 32 from fun c hc => (List.mem_append.1 hc).elim (thr_bd la c) (thr_bd lb c))
  obtain ⟨own, hown⟩ : ∃ own, (at_ + 64) % 32 = own := ⟨_, rfl⟩
  have hown1 : 0 ≤ own ∧ own < 32 := by omega
  have hz : lenF [own, own, own] at_ = 0 := by have := lenF_own at_ ha 3; rw [hown] at this; exact this
  have HZ := hid hz
  have HO := hid hown
  clear hz hown
  obtain ⟨a1, a2⟩ := ha
  have ha : -48 ≤ at_ ∧ at_ ≤ 48 := ⟨a1, a2⟩
  by_cases h0 : la.length = 0
  · have hle : la = [] := List.eq_nil_of_length_eq_zero h0
    have hee := HEE.out
    rw [hle] at hee
    simp only [thr, List.map_nil, planL, List.getLastD_nil] at hee
    subst hee
    have hI4 : ¬ 0 < (la.length : Int) := by omega
    have hI5 : ((la.length : Int) != 1) = true := by rw [h0]; rfl
    have H0 := hid h0
    clear h0 hle
    go_enter Try.func7, Try.ntmps7  ;go_wp2_with fail  ;refine (head_any _).mono ?_  ;rintro e w1 ⟨rfl, hB1⟩  ;go_wp2_with (go_at_call 16; refine (position_any _ _ r0 r1).mono ?_; rintro e w' ⟨rfl, rfl⟩)  ;rw [HAT.out]  ;refine (through_any _ _ la _ (hA.below hB1) HBA.out na).mono ?_  ;rintro e w2 ⟨ao2, cap2, rfl, hs2, hn2, hB2⟩  ;go_wp2_with fail  ;refine (through_any _ _ lb _ ((hB.below hB1).below hB2) HBB.out nb).mono ?_  ;rintro e w3 ⟨ao3, cap3, rfl, hs3, hn3, hB3⟩  ;go_wp2_with fail
    refine (plan_thr at_ _ _ la.length (thr la) _ (hs2.below hB3) ha HLA.out (thr_bd la) hsa).mono ?_  ;rintro e w4 ⟨ao4, cap4, rfl, hs4, hB4⟩
    rw [HN.out]
    go_wp2_with fail
    refine (plan_thr _ _ _ lb.length (thr lb) _ (hs3.below hB4) HE.out.1 HLB.out (thr_bd lb) hsb).mono ?_  ;rintro e w5 ⟨ao5, cap5, rfl, hs5, hB5⟩  ;rw [HM.out]  ;have hm5 : Mine w5.heap.size w5 (w5.alloc (.cells #[] 3)) 3 _ [] := Mine.empty (Below.refl _ _) (Nat.le_refl _)  ;have hv2 := (((hs2.below hB3).below hB4).below hB5).toV.below (below_alloc w5 (.cells #[] 3))  ;go_wp2_with (first     | (at_builtin; refine wpl_apps rfl (.tmp 77) (.tmp 78) 22 rfl 3 _ _ Try.underlying22 Try.info3 rfl _ _ _ _ hm5 rfl _ _ _ la.length (by simp only [List.length_map]; exact HLA.out) hv2 hn2 (ints_one _ _) rfl la.length (by simp) (by unfold maxLen; omega) (by omega) ?_; intro ao6 cap6 w6 hm6 hg6; have hv3 := (((hs3.below hB4).below hB5).below hm6.below).toV)     | (at_builtin; refine wpl_apps rfl (.tmp 79) (.tmp 80) 22 rfl 3 _ _ Try.underlying22 Try.info3 rfl _ _ _ _ hm6 rfl _ _ _ lb.length (by simp only [List.length_map]; exact HLB.out) hv3 hn3 (ints_one _ _) rfl (la.length + lb.length) (by simp only [List.nil_append, List.length_map]; rw [HLA.out]) (by unfold maxLen; omega) (by omega) ?_; intro ao7 cap7 w7 hm7 hg7))
    refine (plan_thr at_ _ _ (la.length + lb.length) (thr la ++ thr lb) _ (hm7.slI (by simp)) ha (by simp only [List.length_append, HLA.out, HLB.out]) HAB.out hlong).mono ?_  ;rintro e w8 ⟨ao8, cap8, rfl, hs8, hB8⟩  ;rw [HW.out]  ;go_wp2_with fail  ;rw [HO.out]  ;have hs9 : SlI (w8.alloc (.cells #[.int .i64 own, .int .i64 own, .int .i64 own] 3)) (some ⟨w8.heap.size, 0, none⟩) [own, own, own] := SlI_lit w8 3 [own, own, own] (by simp [maxLen])
    refine (plan_thr at_ _ _ 3 [own, own, own] _ hs9 ha rfl (by intro c hc; simp at hc; subst hc; exact hown1) (by omega)).mono ?_  ;rintro e w9 ⟨ao9, cap9, rfl, _, hB9⟩  ;rw [HZ.out]  ;have hC9 := unalloc hB9
    go_wp2_with fail
    go_ret
    exact ⟨rfl, (bthen hB1 (bthen hB2 (bthen hB3 (bthen hB4 (bthen hB5 (bthen hm7.below (bthen hB8 hC9)))))))⟩
  · have HLP := hid (show (planL at_ (thr la)).length = la.length by rw [planL_len _ _ ha (thr_bd la) (by rw [HLA.out]; omega), HLA.out])
    have hle : (planL at_ (thr la))[la.length - 1]? = some e := by
      have hlt : la.length - 1 < (planL at_ (thr la)).length := by rw [HLP.out]; omega
      have h1 := List.getElem?_eq_getElem hlt
      have h2 := getLastD_get (planL at_ (thr la)) at_ _ (by rw [HLP.out]; exact h1)
      rw [h1, ← h2, HEE.out]
    have HLE := hid hle
    clear hle
    have hI4 : 0 < (la.length : Int) := by omega
    by_cases h1 : la.length = 1
    · obtain ⟨x, hx⟩ : ∃ x, la = [x] := List.length_eq_one_iff.1 h1
      have hthr : thr la = [x % 32] := by rw [hx]; rfl
      obtain ⟨c, hc⟩ : ∃ c, x % 32 = c := ⟨_, rfl⟩
      rw [hc] at hthr
      have hcb : 0 ≤ c ∧ c < 32 := by omega
      have hI5 : ((la.length : Int) != 1) = false := by rw [h1]; rfl
      have hla1 : (la.length : Int) = 1 := by omega
      have hpe := HLE.out
      rw [h1, hthr] at hpe
      have HMV := hid (fun w => move_val at_ c e n w ((planOk_iff _ _).2 ⟨ha, by simp, by simpa using hcb⟩) (by rw [List.headD_eq_head?_getD, List.head?_eq_getElem?, hpe]; rfl) (by rw [← hthr]; exact HN.out))
      have HTH := hid (show (thr la)[0]? = some c by rw [hthr]; rfl)
      have H1 := hid h1
      have H0 := hid hla1
      clear h1 h0 hx hthr hc hpe hla1
      go_enter Try.func7, Try.ntmps7  ;go_wp2_with fail  ;refine (head_any _).mono ?_  ;rintro e w1 ⟨rfl, hB1⟩  ;go_wp2_with (go_at_call 16; refine (position_any _ _ r0 r1).mono ?_; rintro e w' ⟨rfl, rfl⟩)  ;rw [HAT.out]  ;refine (through_any _ _ la _ (hA.below hB1) HBA.out na).mono ?_  ;rintro e w2 ⟨ao2, cap2, rfl, hs2, hn2, hB2⟩  ;go_wp2_with fail  ;refine (through_any _ _ lb _ ((hB.below hB1).below hB2) HBB.out nb).mono ?_  ;rintro e w3 ⟨ao3, cap3, rfl, hs3, hn3, hB3⟩  ;go_wp2_with fail
      refine (plan_thr at_ _ _ la.length (thr la) _ (hs2.below hB3) ha HLA.out (thr_bd la) hsa).mono ?_  ;rintro e w4 ⟨ao4, cap4, rfl, hs4, hB4⟩
      rw [HN.out]
      obtain ⟨b4, off4, rfl, hb4, hx4⟩ := hs4.cell (la.length - 1) e HLE.out
      go_wp2_with fail
      refine (plan_thr _ _ _ lb.length (thr lb) _ (hs3.below hB4) HE.out.1 HLB.out (thr_bd lb) hsb).mono ?_  ;rintro e w5 ⟨ao5, cap5, rfl, hs5, hB5⟩  ;rw [HM.out]  ;have hm5 : Mine w5.heap.size w5 (w5.alloc (.cells #[] 3)) 3 _ [] := Mine.empty (Below.refl _ _) (Nat.le_refl _)  ;have hv2 := (((hs2.below hB3).below hB4).below hB5).toV.below (below_alloc w5 (.cells #[] 3))  ;go_wp2_with (first     | (at_builtin; refine wpl_apps rfl (.tmp 77) (.tmp 78) 22 rfl 3 _ _ Try.underlying22 Try.info3 rfl _ _ _ _ hm5 rfl _ _ _ la.length (by simp only [List.length_map]; exact HLA.out) hv2 hn2 (ints_one _ _) rfl la.length (by simp) (by unfold maxLen; omega) (by omega) ?_; intro ao6 cap6 w6 hm6 hg6; have hv3 := (((hs3.below hB4).below hB5).below hm6.below).toV)     | (at_builtin; refine wpl_apps rfl (.tmp 79) (.tmp 80) 22 rfl 3 _ _ Try.underlying22 Try.info3 rfl _ _ _ _ hm6 rfl _ _ _ lb.length (by simp only [List.length_map]; exact HLB.out) hv3 hn3 (ints_one _ _) rfl (la.length + lb.length) (by simp only [List.nil_append, List.length_map]; rw [HLA.out]) (by unfold maxLen; omega) (by omega) ?_; intro ao7 cap7 w7 hm7 hg7))
      refine (plan_thr at_ _ _ (la.length + lb.length) (thr la ++ thr lb) _ (hm7.slI (by simp)) ha (by simp only [List.length_append, HLA.out, HLB.out]) HAB.out hlong).mono ?_  ;rintro e w8 ⟨ao8, cap8, rfl, hs8, hB8⟩  ;rw [HW.out]  ;go_wp2_with fail  ;rw [HO.out]  ;have hs9 : SlI (w8.alloc (.cells #[.int .i64 own, .int .i64 own, .int .i64 own] 3)) (some ⟨w8.heap.size, 0, none⟩) [own, own, own] := SlI_lit w8 3 [own, own, own] (by simp [maxLen])
      refine (plan_thr at_ _ _ 3 [own, own, own] _ hs9 ha rfl (by intro c hc; simp at hc; subst hc; exact hown1) (by omega)).mono ?_  ;rintro e w9 ⟨ao9, cap9, rfl, _, hB9⟩  ;rw [HZ.out]  ;have hC9 := unalloc hB9
      obtain ⟨b2, off2, rfl, hb2, hx2⟩ := (((((hs2.below hB3).below hB4).below hB5).below hm7.below).below hB8).below hC9 |>.cell 0 c HTH.out
      rw [Nat.add_zero] at hx2
      have hx5 := (((hs4.below hB5).below hm7.below).below hB8).below hC9 |>.cell (la.length - 1) e HLE.out
      obtain ⟨b5, off5, e5, _, hx5⟩ := hx5
      simp only [Option.some.injEq, Addr.mk.injEq, and_true] at e5
      obtain ⟨rfl, rfl⟩ := e5
      rw [H1.out, Nat.sub_self, Nat.add_zero] at hx5
      have hb9 := World.block_lt_of_cell? w9 _ hx5
      go_wp2_with fail
      refine (HMV.out _).mono ?_
      rintro e' w10 ⟨rfl, hB10⟩
      have hx6 := (hB10.cell (p := ⟨b4, off4, none⟩) hb9).trans hx5
      go_wp2_with fail
      go_ret
      exact ⟨rfl, bthen (bthen hB1 (bthen hB2 (bthen hB3 (bthen hB4 (bthen hB5 (bthen hm7.below (bthen hB8 hC9))))))) hB10⟩
    · have hI5 : ((la.length : Int) != 1) = true := by simp; omega
      clear h1
      go_enter Try.func7, Try.ntmps7  ;go_wp2_with fail  ;refine (head_any _).mono ?_  ;rintro e w1 ⟨rfl, hB1⟩  ;go_wp2_with (go_at_call 16; refine (position_any _ _ r0 r1).mono ?_; rintro e w' ⟨rfl, rfl⟩)  ;rw [HAT.out]  ;refine (through_any _ _ la _ (hA.below hB1) HBA.out na).mono ?_  ;rintro e w2 ⟨ao2, cap2, rfl, hs2, hn2, hB2⟩  ;go_wp2_with fail  ;refine (through_any _ _ lb _ ((hB.below hB1).below hB2) HBB.out nb).mono ?_  ;rintro e w3 ⟨ao3, cap3, rfl, hs3, hn3, hB3⟩  ;go_wp2_with fail
      refine (plan_thr at_ _ _ la.length (thr la) _ (hs2.below hB3) ha HLA.out (thr_bd la) hsa).mono ?_  ;rintro e w4 ⟨ao4, cap4, rfl, hs4, hB4⟩
      rw [HN.out]
      obtain ⟨b4, off4, rfl, hb4, hx4⟩ := hs4.cell (la.length - 1) e HLE.out
      go_wp2_with fail
      refine (plan_thr _ _ _ lb.length (thr lb) _ (hs3.below hB4) HE.out.1 HLB.out (thr_bd lb) hsb).mono ?_  ;rintro e w5 ⟨ao5, cap5, rfl, hs5, hB5⟩  ;rw [HM.out]  ;have hm5 : Mine w5.heap.size w5 (w5.alloc (.cells #[] 3)) 3 _ [] := Mine.empty (Below.refl _ _) (Nat.le_refl _)  ;have hv2 := (((hs2.below hB3).below hB4).below hB5).toV.below (below_alloc w5 (.cells #[] 3))  ;go_wp2_with (first     | (at_builtin; refine wpl_apps rfl (.tmp 77) (.tmp 78) 22 rfl 3 _ _ Try.underlying22 Try.info3 rfl _ _ _ _ hm5 rfl _ _ _ la.length (by simp only [List.length_map]; exact HLA.out) hv2 hn2 (ints_one _ _) rfl la.length (by simp) (by unfold maxLen; omega) (by omega) ?_; intro ao6 cap6 w6 hm6 hg6; have hv3 := (((hs3.below hB4).below hB5).below hm6.below).toV)     | (at_builtin; refine wpl_apps rfl (.tmp 79) (.tmp 80) 22 rfl 3 _ _ Try.underlying22 Try.info3 rfl _ _ _ _ hm6 rfl _ _ _ lb.length (by simp only [List.length_map]; exact HLB.out) hv3 hn3 (ints_one _ _) rfl (la.length + lb.length) (by simp only [List.nil_append, List.length_map]; rw [HLA.out]) (by unfold maxLen; omega) (by omega) ?_; intro ao7 cap7 w7 hm7 hg7))
      refine (plan_thr at_ _ _ (la.length + lb.length) (thr la ++ thr lb) _ (hm7.slI (by simp)) ha (by simp only [List.length_append, HLA.out, HLB.out]) HAB.out hlong).mono ?_  ;rintro e w8 ⟨ao8, cap8, rfl, hs8, hB8⟩  ;rw [HW.out]  ;go_wp2_with fail  ;rw [HO.out]  ;have hs9 : SlI (w8.alloc (.cells #[.int .i64 own, .int .i64 own, .int .i64 own] 3)) (some ⟨w8.heap.size, 0, none⟩) [own, own, own] := SlI_lit w8 3 [own, own, own] (by simp [maxLen])
      refine (plan_thr at_ _ _ 3 [own, own, own] _ hs9 ha rfl (by intro c hc; simp at hc; subst hc; exact hown1) (by omega)).mono ?_  ;rintro e w9 ⟨ao9, cap9, rfl, _, hB9⟩  ;rw [HZ.out]  ;have hC9 := unalloc hB9
      go_wp2_with fail
      go_ret
      exact ⟨rfl, (bthen hB1 (bthen hB2 (bthen hB3 (bthen hB4 (bthen hB5 (bthen hm7.below (bthen hB8 hC9)))))))⟩

theorem parts_fin (raw : Int) (a0 : Option Addr) (len0 cap0 : Nat) (z0 : List Int) (a1 : Option Addr) (len1 cap1 : Nat) (z1 : List Int) (w : World) (h0 : (Lit.int .u8 raw).wf = true)
    (h1 : IsRow .u8 w a0 len0 cap0 z0) (h2 : IsRow .u8 w a1 len1 cap1 z1) (hk : cap0 + cap1 ≤ 1048576) :
    Calls Try.prog 7 #[.int .u8 raw, .slice a0 len0 cap0, .slice a1 len1 cap1] w fun e w' => e = .returned (.bool true) ∧ Below w.heap.size w w' := by
  obtain ⟨la, rfl, s0, f0, c0⟩ := h1.sl
  obtain ⟨lb, rfl, s1, f1, c1⟩ := h2.sl
  by_cases h : 40 < la.length + lb.length
  · exact parts_long raw a0 a1 cap0 cap1 la lb w (u8_bd h0).1 (u8_bd h0).2 s0 s1 (fun x hx => u8_bd (f0 x hx)) (fun x hx => u8_bd (f1 x hx)) (by omega) (by omega) h
  · exact parts_zero raw a0 a1 cap0 cap1 la lb w (u8_bd h0).1 (u8_bd h0).2 s0 s1 (fun x hx => u8_bd (f0 x hx)) (fun x hx => u8_bd (f1 x hx)) (by omega)
end Go.Proofs.Ytiimngmkndfegaa
