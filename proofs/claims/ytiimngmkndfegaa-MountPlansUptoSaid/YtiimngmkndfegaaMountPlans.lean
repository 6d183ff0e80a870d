/- mount: the statement Plans -/
import Derived.Test.YtiimngmkndfegaaMountBest
namespace Go.Proofs.Ytiimngmkndfegaa
open Go.RowKit

theorem below_drew {a b : World} (h : Below a.heap.size a b) : Below a.heap.size a b.drew := ⟨h.os, h.tape, h.output, h.size, h.block⟩
theorem dist_same (a b : Int) : max (a - b) (b - a) = max (b - a) (a - b) := by omega


set_option maxHeartbeats 4000000 in
set_option maxRecDepth 100000 in
theorem plans_long (raw : Int) (ao bo : Option Addr) (ca n2 cb : Nat) (la : List Int) (w : World) (r0 : 0 ≤ raw) (r1 : raw ≤ 255) (hA : SlV w ao (la.map (Value.int .u8)))
    (ba : ∀ x ∈ la, 0 ≤ x ∧ x ≤ 255) (na : la.length ≤ 1048576) (hlong : 40 < la.length) :
    Calls Try.prog 5 #[.int .u8 raw, .slice ao la.length ca, .slice bo n2 cb] w fun e w' => e = .returned (.bool true) ∧ Below w.heap.size w w' := by
  obtain ⟨at_, hat⟩ : ∃ at_, raw % 97 - 48 = at_ := ⟨_, rfl⟩
  have HAT := hid hat
  clear hat
  have HBA := hid ba
  clear ba
  have hI : 40 < (la.length : Int) := by omega
  have HLA := hid (show (thr la).length = la.length by simp [thr])
  go_enter Try.func5, Try.ntmps5  ;go_wp2_with fail  ;refine (head_any _).mono ?_  ;rintro e w1 ⟨rfl, hB1⟩  ;go_wp2_with (go_at_call 16; refine (position_any _ _ r0 r1).mono ?_; rintro e w' ⟨rfl, rfl⟩)  ;rw [HAT.out]  ;refine (through_any _ _ la _ (hA.below hB1) HBA.out na).mono ?_  ;rintro e w2 ⟨ao2, cap2, rfl, hs2, hn2, hB2⟩  ;go_wp2_with fail
  refine (plan_long at_ _ _ la.length (thr la) _ hs2 HLA.out hlong).mono ?_
  rintro e w3 ⟨rfl, hB3⟩
  go_wp2_with fail
  go_ret
  exact ⟨rfl, bthen hB1 (bthen hB2 hB3)⟩




set_option maxHeartbeats 8000000 in
set_option maxRecDepth 100000 in
theorem plans_short (raw : Int) (ao bo : Option Addr) (ca cb : Nat) (la lb : List Int) (w : World) (r0 : 0 ≤ raw) (r1 : raw ≤ 255) (hA : SlV w ao (la.map (Value.int .u8))) (hC : SlV w bo (lb.map (Value.int .u8)))
    (ba : ∀ x ∈ la, 0 ≤ x ∧ x ≤ 255) (bb : ∀ x ∈ lb, 0 ≤ x ∧ x ≤ 255) (nb : lb.length ≤ 1048576) (hsa : la.length ≤ 40) :
    Calls Try.prog 5 #[.int .u8 raw, .slice ao la.length ca, .slice bo lb.length cb] w fun e w' => e = .returned (.bool true) ∧ Below w.heap.size w w' := by
  obtain ⟨at_, hat⟩ : ∃ at_, raw % 97 - 48 = at_ := ⟨_, rfl⟩
  have ha : -48 ≤ at_ ∧ at_ ≤ 48 := by omega
  have HAT := hid hat
  clear hat
  have HBA := hid ba
  have HBB := hid bb
  clear ba bb
  have na : la.length ≤ 1048576 := by omega
  have hI : ¬ 40 < (la.length : Int) := by omega
  have HLA := hid (show (thr la).length = la.length by simp [thr])
  have HTB := hid (thr_bd la)
  obtain ⟨cs, hcs⟩ : ∃ cs, thr la = cs := ⟨_, rfl⟩
  obtain ⟨hp1, hp2⟩ := plan_path cs at_ ha (by rw [← hcs]; exact thr_bd la) (by rw [← hcs, HLA.out]; omega)
  have hq := qsF_in cs (planL at_ cs) lb (by rw [← hcs]; exact thr_bd la) hp2
  obtain ⟨hb1, hb2⟩ := plan_best cs at_ (qsF cs (planL at_ cs) lb) ha (by rw [← hcs]; exact thr_bd la) (by rw [← hcs, HLA.out]; omega) hq
  have hb := lenF_bd cs at_
  have HPL := hid (show (planL at_ cs).length = la.length by rw [hp2.len, ← hcs, HLA.out])
  obtain ⟨n, hn⟩ : ∃ n, lenF cs at_ = n := ⟨_, rfl⟩
  obtain ⟨P, hP⟩ : ∃ P, planL at_ cs = P := ⟨_, rfl⟩
  rw [hn] at hp1 hb1 hb2 hb
  rw [hP] at hp1 hp2 hq hb1 hb2 HPL
  obtain ⟨OT, hOT⟩ : ∃ n, pathLen at_ (qsF cs P lb) = n := ⟨_, rfl⟩
  obtain ⟨RT, hRT⟩ : ∃ n, ordF (qsF cs P lb) P = n := ⟨_, rfl⟩
  rw [hOT] at hb1 hb2
  rw [hRT] at hb2
  have HN := hid hn
  have HP := hid hP
  have HP1 := hid hp1
  have HP2 := hid hp2
  have HB2 := hid hb2
  have HO := hid hOT
  have HR := hid hRT
  clear hn hP hp1 hp2 hb2 hOT hRT hq
  obtain ⟨a1, a2⟩ := ha
  obtain ⟨b1, b2⟩ := hb
  go_enter Try.func5, Try.ntmps5  ;go_wp2_with fail  ;refine (head_any _).mono ?_  ;rintro e w1 ⟨rfl, hB1⟩  ;go_wp2_with (go_at_call 16; refine (position_any _ _ r0 r1).mono ?_; rintro e w' ⟨rfl, rfl⟩)  ;rw [HAT.out]  ;refine (through_any _ _ la _ (hA.below hB1) HBA.out na).mono ?_  ;rintro e w2 ⟨ao2, cap2, rfl, hs2, hn2, hB2⟩  ;go_wp2_with fail
  rw [hcs] at hs2 HTB HLA
  clear hcs
  refine (plan_thr at_ _ _ la.length cs _ hs2 ⟨a1, a2⟩ HLA.out HTB.out hsa).mono ?_
  rintro e w3 ⟨ao3, cap3, rfl, hp3, hB3⟩
  rw [HN.out]
  rw [HP.out] at hp3
  have hs3 := hs2.below hB3
  have hc3 := ((hC.below hB1).below hB2).below hB3
  have HBW := hid (bthen hB1 (bthen hB2 hB3))
  obtain ⟨m, hm⟩ : ∃ m, la.length = m := ⟨_, rfl⟩
  obtain ⟨m2, hm2⟩ : ∃ m, lb.length = m := ⟨_, rfl⟩
  rw [hm] at hsa hI HLA HPL ⊢
  rw [hm2] at nb ⊢
  have HLB := hid hm2
  clear hs2 hA hm na hC hB1 hB2 hB3 hm2
  go_wp2_with fail
  go_loopw [13, 14, 15, 16, 17, 18] (fun s13 s14 s15 s16 s17 s18 wr => ∃ (i : Nat) (S O F T R : Int), s13 = .int .i64 S ∧ s14 = .int .i64 O ∧ s15 = .int .i64 F ∧ s16 = .int .i64 T ∧ s17 = .int .i64 R ∧ s18 = .int .i64 i ∧ i ≤ m ∧
    Below w3.heap.size w3 wr ∧ (-48 ≤ F ∧ F ≤ 48) ∧ (-48 ≤ T ∧ T ≤ 48) ∧ (0 ≤ S ∧ S ≤ 96 * (i : Int)) ∧ (0 ≤ O ∧ O ≤ 96 * (i : Int)) ∧ Hid (S + pathLen F (P.drop i) = n) ∧ Hid (O + pathLen T (qsF (cs.drop i) (P.drop i) (lb.drop i)) = OT) ∧
    Hid ((R = 0 ∧ ordF (qsF (cs.drop i) (P.drop i) (lb.drop i)) (P.drop i) = RT) ∨ (R ≠ 0 ∧ R = RT))) (fun _ _ _ _ _ s18 _ => m - (intOf s18).toNat)
  case atStart => exact ⟨0, 0, 0, at_, at_, 0, rfl, rfl, rfl, rfl, rfl, rfl, by omega, Below.refl _ _, ⟨a1, a2⟩, ⟨a1, a2⟩, by omega, by omega, hid (by rw [List.drop_zero, HP1.out]; omega), hid (by simp only [List.drop_zero]; rw [HO.out]; omega), hid (.inl ⟨rfl, by simp only [List.drop_zero]; exact HR.out⟩)⟩
  case round =>
    obtain ⟨i, S, O, F, T, R, rfl, rfl, rfl, rfl, rfl, rfl, hi, hB, ⟨f0, f1⟩, ⟨t0, t1⟩, ⟨s0, s1⟩, ⟨o0, o1⟩, HSI, HOI, HRI⟩ := hrel
    by_cases hlt : i < m
    · have hI1 : (i : Int) < (m : Int) := by omega
      obtain ⟨c, hc⟩ : ∃ c, cs[i]? = some c := ⟨_, List.getElem?_eq_getElem (by have := HLA.out; omega)⟩
      obtain ⟨p, hp⟩ : ∃ p, P[i]? = some p := ⟨_, List.getElem?_eq_getElem (by have := HPL.out; omega)⟩
      obtain ⟨k0, k1⟩ := HTB.out c (List.mem_of_getElem? hc)
      have hpm := HP2.out.get i p c hp hc
      obtain ⟨p0, p1⟩ := reachL_mem c p hpm
      have hpc := (reachL_col c p k0 k1 hpm).2
      have hdc := drop_at cs i c hc
      have hdp := drop_at P i p hp
      have hS2 := HSI.out
      rw [hdp, pathLen] at hS2
      have HS2 := hid (show S + max (F - p) (p - F) + pathLen p (P.drop (i + 1)) = n by omega)
      have HRC := hid (fun w => reach_yes c _ w k0 k1 rfl)
      have hrl := rlen_bd c
      rw [← reachL_len c k0 k1] at hrl
      have HPG := hid (fun x => pick_get c x k0 k1)
      have HPM := hid (fun x => reachL_mem c _ (pick_mem c x k0 k1))
      have HPI := hid (fun x => pick_idx c x k0 k1)
      have HD1 := hid (fun w => ldist_any F p (by omega) (by omega) (by omega) (by omega) w)
      have hd0 : 0 ≤ max (F - p) (p - F) ∧ max (F - p) (p - F) ≤ 96 := by omega
      generalize max (F - p) (p - F) = D at *
      obtain ⟨d0, d1⟩ := hd0
      obtain ⟨L, hL⟩ : ∃ L, (reachL c).length = L := ⟨_, rfl⟩
      rw [hL] at hrl HPG HPI HRC
      obtain ⟨l0, l1⟩ := hrl
      have HCC := hid (fun (W : World) (hW : Below w3.heap.size w3 W) => (hs3.below hW).cell i c hc)
      have HPC := hid (fun (W : World) (hW : Below w3.heap.size w3 W) => (hp3.below hW).cell i p hp)
      have g1 : decide (p < -48) = false := by simp; omega
      have g2 : decide (48 < p) = false := by simp; omega
      have g3 : ((p + 64) % 32 != c) = false := by rw [hpc]; simp
      have HC' := hid hdc
      have HP' := hid hdp
      obtain ⟨b, off, rfl, hb0, cc⟩ := HCC.out wr hB
      obtain ⟨b', off', rfl, hb0', pc⟩ := HPC.out wr hB
      clear hc hp hS2 HSI hpm hpc hdc hdp hL
      go_wp2_with fail
      refine wp_region_quiet_all (by kernel_rfl) (by kernel_rfl) ?_  ;(repeat (go_big_quiet_step (fail)))  ;refine wpQuiet_end ?_  ;go_wp2_with fail
      refine (HRC.out _).mono ?_
      rintro e w4 ⟨ar, car, rfl, hsr, hB4⟩
      have hBB : Below w3.heap.size w3 w4 := bthen (below_drew hB) hB4
      have pc4 : w4.cell? ⟨b', off' + i, none⟩ = some (.int .i64 p) := (hB4.cell hb0').trans pc
      have cc4 : w4.cell? ⟨b, off + i, none⟩ = some (.int .i64 c) := (hB4.cell hb0).trans cc
      have hsz := hB4.size
      clear pc cc
      have hbp : b' < w4.heap.size := Nat.lt_of_lt_of_le hb0' hsz
      by_cases hch : i < m2
      · have hI2 : (i : Int) < (m2 : Int) := by omega
        obtain ⟨x, hx⟩ : ∃ x, lb[i]? = some x := ⟨_, List.getElem?_eq_getElem (by have := HLB.out; omega)⟩
        obtain ⟨x0, x1⟩ := HBB.out x (List.mem_of_getElem? hx)
        obtain ⟨bc, oc, rfl, hbc, xc⟩ := (hc3.below hBB).cell i (.int .u8 x) (by simp [hx])
        obtain ⟨br, offr, rfl, hbr, qc⟩ := hsr.cell _ _ (HPG.out x)
        obtain ⟨pi0, pi1⟩ := HPI.out x
        obtain ⟨q0, q1⟩ := HPM.out x
        have hdx := drop_at lb i x hx
        have hO2 := HOI.out
        have hR2 := HRI.out
        rw [HC'.out, HP'.out, hdx, qsF, pathLen] at hO2
        rw [HC'.out, HP'.out, hdx, qsF, ordF] at hR2
        have hLne : ((L : Int) == 0) = false := by simp; omega
        generalize pickF c x = q at *
        clear HPG HPM HPI
        have HD2 := hid (fun w => ldist_any T q (by omega) (by omega) (by omega) (by omega) w)
        have hd2 : 0 ≤ max (T - q) (q - T) ∧ max (T - q) (q - T) ≤ 96 := by omega
        generalize max (T - q) (q - T) = D2 at *
        obtain ⟨d2, d3⟩ := hd2
        have HO2 := hid (show O + D2 + pathLen q (qsF (cs.drop (i + 1)) (P.drop (i + 1)) (lb.drop (i + 1))) = OT by omega)
        have HR2 := hid hR2
        clear hx hdx hO2 hR2 HOI HRI
        rcases HR2.out with ⟨rfl, hR⟩ | ⟨hR0, hR⟩
        · rcases Int.lt_trichotomy q p with hqp | rfl | hqp
          · rw [if_pos hqp] at hR
            have HRF := hid hR.symm
            have hq2 : ¬ p < q := by omega
            clear HR2 hR
            go_wp2_with fail  ;refine (HD1.out _).mono ?_  ;rintro e w' ⟨rfl, rfl⟩  ;go_wp2_with fail  ;refine (HD2.out _).mono ?_  ;rintro e w' ⟨rfl, rfl⟩  ;go_wp2_with fail  ;go_roundw
            case rel => exact ⟨i + 1, _, _, _, _, _, rfl, rfl, rfl, rfl, rfl, by go_num, by omega, hBB, ⟨p0, p1⟩, ⟨by omega, by omega⟩, ⟨by omega, by omega⟩, ⟨by omega, by omega⟩, HS2, HO2, hid (.inr ⟨by omega, HRF.out.symm⟩)⟩
            case measure => simp [intOf] <;> omega
          · rw [if_neg (Int.lt_irrefl _), if_neg (Int.lt_irrefl _)] at hR
            have HRF := hid hR
            clear HR2 hR
            go_wp2_with fail  ;refine (HD1.out _).mono ?_  ;rintro e w' ⟨rfl, rfl⟩  ;go_wp2_with fail  ;refine (HD2.out _).mono ?_  ;rintro e w' ⟨rfl, rfl⟩  ;go_wp2_with fail  ;go_roundw
            case rel => exact ⟨i + 1, _, _, _, _, _, rfl, rfl, rfl, rfl, rfl, by go_num, by omega, hBB, ⟨p0, p1⟩, ⟨by omega, by omega⟩, ⟨by omega, by omega⟩, ⟨by omega, by omega⟩, HS2, HO2, hid (.inl ⟨rfl, HRF.out⟩)⟩
            case measure => simp [intOf] <;> omega
          · have hq2 : ¬ q < p := by omega
            rw [if_neg hq2, if_pos hqp] at hR
            have HRF := hid hR.symm
            clear HR2 hR
            go_wp2_with fail  ;refine (HD1.out _).mono ?_  ;rintro e w' ⟨rfl, rfl⟩  ;go_wp2_with fail  ;refine (HD2.out _).mono ?_  ;rintro e w' ⟨rfl, rfl⟩  ;go_wp2_with fail  ;go_roundw
            case rel => exact ⟨i + 1, _, _, _, _, _, rfl, rfl, rfl, rfl, rfl, by go_num, by omega, hBB, ⟨p0, p1⟩, ⟨by omega, by omega⟩, ⟨by omega, by omega⟩, ⟨by omega, by omega⟩, HS2, HO2, hid (.inr ⟨by omega, HRF.out.symm⟩)⟩
            case measure => simp [intOf] <;> omega
        · have HRF := hid hR
          have hR1 : (R == 0) = false := by simpa using hR0
          have HR0 := hid hR0
          clear HR2 hR
          go_wp2_with fail  ;refine (HD1.out _).mono ?_  ;rintro e w' ⟨rfl, rfl⟩  ;go_wp2_with fail  ;refine (HD2.out _).mono ?_  ;rintro e w' ⟨rfl, rfl⟩  ;go_wp2_with fail  ;go_roundw
          case rel => exact ⟨i + 1, _, _, _, _, _, rfl, rfl, rfl, rfl, rfl, by go_num, by omega, hBB, ⟨p0, p1⟩, ⟨by omega, by omega⟩, ⟨by omega, by omega⟩, ⟨by omega, by omega⟩, HS2, HO2, hid (.inr ⟨HR0.out, HRF.out⟩)⟩
          case measure => simp [intOf] <;> omega
      · have hI2 : ¬ (i : Int) < (m2 : Int) := by omega
        have hdx : lb.drop i = [] := List.drop_eq_nil_of_le (by have := HLB.out; omega)
        have hdx1 : lb.drop (i + 1) = [] := List.drop_eq_nil_of_le (by have := HLB.out; omega)
        have hO2 := HOI.out
        have hR2 := HRI.out
        rw [HC'.out, HP'.out, hdx, qsF, pathLen, ← hdx1] at hO2
        rw [HC'.out, HP'.out, hdx, qsF, ordF, if_neg (Int.lt_irrefl _), if_neg (Int.lt_irrefl _), ← hdx1] at hR2
        have hLne : ((L : Int) == 0) = false := by simp; omega
        have HD2 := hid (fun w => ldist_any T p (by omega) (by omega) (by omega) (by omega) w)
        have hd2 : 0 ≤ max (T - p) (p - T) ∧ max (T - p) (p - T) ≤ 96 := by omega
        generalize max (T - p) (p - T) = D2 at *
        obtain ⟨d2, d3⟩ := hd2
        have HO2 := hid (show O + D2 + pathLen p (qsF (cs.drop (i + 1)) (P.drop (i + 1)) (lb.drop (i + 1))) = OT by omega)
        have HR2 := hid hR2
        clear hdx hdx1 hO2 hR2 HOI HRI HPG HPM HPI
        rcases HR2.out with ⟨rfl, hR⟩ | ⟨hR0, hR⟩
        · have HRF := hid hR
          clear HR2 hR
          go_wp2_with fail  ;refine (HD1.out _).mono ?_  ;rintro e w' ⟨rfl, rfl⟩  ;go_wp2_with fail  ;refine (HD2.out _).mono ?_  ;rintro e w' ⟨rfl, rfl⟩  ;go_wp2_with fail  ;go_roundw
          case rel => exact ⟨i + 1, _, _, _, _, _, rfl, rfl, rfl, rfl, rfl, by go_num, by omega, hBB, ⟨p0, p1⟩, ⟨by omega, by omega⟩, ⟨by omega, by omega⟩, ⟨by omega, by omega⟩, HS2, HO2, hid (.inl ⟨rfl, HRF.out⟩)⟩
          case measure => simp [intOf] <;> omega
        · have HRF := hid hR
          have hR1 : (R == 0) = false := by simpa using hR0
          have HR0 := hid hR0
          clear HR2 hR
          go_wp2_with fail  ;refine (HD1.out _).mono ?_  ;rintro e w' ⟨rfl, rfl⟩  ;go_wp2_with fail  ;refine (HD2.out _).mono ?_  ;rintro e w' ⟨rfl, rfl⟩  ;go_wp2_with fail  ;go_roundw
          case rel => exact ⟨i + 1, _, _, _, _, _, rfl, rfl, rfl, rfl, rfl, by go_num, by omega, hBB, ⟨p0, p1⟩, ⟨by omega, by omega⟩, ⟨by omega, by omega⟩, ⟨by omega, by omega⟩, HS2, HO2, hid (.inr ⟨HR0.out, HRF.out⟩)⟩
          case measure => simp [intOf] <;> omega
    · have hIe : ¬ (i : Int) < (m : Int) := by omega
      have hp' : P.drop i = [] := List.drop_eq_nil_of_le (by have := HPL.out; omega)
      have hc' : cs.drop i = [] := List.drop_eq_nil_of_le (by have := HLA.out; omega)
      have e1 := HSI.out
      have e2 := HOI.out
      have e3 := HRI.out
      rw [hp'] at e1 e2 e3
      rw [hc'] at e2 e3
      simp only [qsF, pathLen, ordF, Int.add_zero] at e1 e2 e3
      have e4 : R = RT := by rcases e3 with ⟨rfl, h⟩ | ⟨_, h⟩ <;> exact h
      subst e1 e2 e4
      clear e3 hp' hc' HSI HOI HRI
      have HBF := hid (bthen HBW.out hB)
      rcases Int.lt_or_le S O with hso | hso
      · go_wp2_with fail
        go_ret
        exact ⟨ret_bool (by first | rfl | simp [*]), HBF.out⟩
      · obtain rfl : O = S := by omega
        have hR := HB2.out rfl
        have hso2 : ¬ O < O := by omega
        go_wp2_with fail
        go_ret
        exact ⟨ret_bool (by first | rfl | simp [*]), HBF.out⟩

theorem plans_fin (raw : Int) (a0 : Option Addr) (len0 cap0 : Nat) (z0 : List Int) (a1 : Option Addr) (len1 cap1 : Nat) (z1 : List Int) (w : World) (h0 : (Lit.int .u8 raw).wf = true)
    (h1 : IsRow .u8 w a0 len0 cap0 z0) (h2 : IsRow .u8 w a1 len1 cap1 z1) (hk : cap0 + cap1 ≤ 1048576) :
    Calls Try.prog 5 #[.int .u8 raw, .slice a0 len0 cap0, .slice a1 len1 cap1] w fun e w' => e = .returned (.bool true) ∧ Below w.heap.size w w' := by
  obtain ⟨la, rfl, s0, f0, c0⟩ := h1.sl
  obtain ⟨lb, rfl, s1, f1, c1⟩ := h2.sl
  by_cases h : la.length ≤ 40
  · exact plans_short raw a0 a1 cap0 cap1 la lb w (u8_bd h0).1 (u8_bd h0).2 s0 s1 (fun x hx => u8_bd (f0 x hx)) (fun x hx => u8_bd (f1 x hx)) (by omega) h
  · exact plans_long raw a0 a1 cap0 lb.length cap1 la w (u8_bd h0).1 (u8_bd h0).2 s0 (fun x hx => u8_bd (f0 x hx)) (by omega) (by omega)
end Go.Proofs.Ytiimngmkndfegaa
