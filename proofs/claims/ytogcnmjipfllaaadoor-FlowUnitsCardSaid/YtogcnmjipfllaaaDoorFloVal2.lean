/- flow: Valid -/
import Derived.Test.YtogcnmjipfllaaaDoorFloVal
namespace Go.Proofs.YtogcnmjipfllaaaDoor
open Go.RowKit

def fV (f : Flw) (so : Option Addr) (sc : Nat) : Value := .agg #[.string f.name, .int .i64 f.ver, .slice so f.steps.length sc]
def boolsF (l : List Bool) : List Value := l.map Value.bool
theorem boolsF_len (l : List Bool) : (boolsF l).length = l.length := by simp [boolsF]
theorem boolsF_get {l : List Bool} {i : Nat} {b : Bool} (h : l[i]? = some b) : (boolsF l)[i]? = some (.bool b) := by simp [boolsF, h]
theorem maskL_len (S : List Stp) : (maskL S).length = S.length := by simp [maskL]
theorem stepsB_cons (M : List Bool) (s : Stp) (S : List Stp) : stepsB M (s :: S) = (stepB M s && stepsB (M ++ [(opr s.op).m]) S) := rfl
theorem look_drew (n : Int) (u : World) : (∀ o, (Instr.lookup 54 (.map (some u.heap.size)) (.int .i64 n) true).run Tryd.prog (((u.alloc (.map oEs 10)).alloc o).drew) = .ok (.tuple #[(opr n).v, .bool (isO n)]) (((u.alloc (.map oEs 10)).alloc o).drew)) ∧ (Instr.lookup 54 (.map (some u.heap.size)) (.int .i64 n) true).run Tryd.prog ((u.alloc (.map oEs 10)).drew) = .ok (.tuple #[(opr n).v, .bool (isO n)]) ((u.alloc (.map oEs 10)).drew) ∧
    (∀ o, (Instr.lookup 54 (.map (some (u.heap.size + 1))) (.int .i64 n) true).run Tryd.prog (((u.alloc o).alloc (.map oEs 10)).drew) = .ok (.tuple #[(opr n).v, .bool (isO n)]) (((u.alloc o).alloc (.map oEs 10)).drew)) ∧
    (∀ o, (Instr.lookup 54 (.map (some (u.alloc o).heap.size)) (.int .i64 n) true).run Tryd.prog (((u.alloc o).alloc (.map oEs 10)).drew) = .ok (.tuple #[(opr n).v, .bool (isO n)]) (((u.alloc o).alloc (.map oEs 10)).drew)) := by
  have h1 : ∀ (u : World) (r c0 : Nat), u.heap[r]? = some (.map oEs c0) → (Instr.lookup 54 (.map (some r)) (.int .i64 n) true).run Tryd.prog u.drew = .ok (.tuple #[(opr n).v, .bool (isO n)]) u.drew := fun u r c0 h => look_ok n h
  refine ⟨fun o => h1 _ _ 10 ((Below.heap_alloc _ _ _ (by simp)).trans (heap_alloc_new u _)), h1 _ _ 10 (heap_alloc_new u _), fun o => h1 _ _ 10 ?_, fun o => h1 _ _ 10 (heap_alloc_new _ _)⟩
  have := heap_alloc_new (u.alloc o) (.map oEs 10)
  rwa [World.size_alloc] at this
theorem Tryd.boolInfo : (Tryd.prog.info? 4).map (fun i => (i.zero, i.size, i.bytes)) = some (some (.bool false), 1, 1) := by kernel_rfl
theorem look_all (n : Int) (u : World) : (∀ o, (Instr.lookup 54 (.map (some u.heap.size)) (.int .i64 n) true).run Tryd.prog ((u.alloc (.map oEs 10)).alloc o) = .ok (.tuple #[(opr n).v, .bool (isO n)]) ((u.alloc (.map oEs 10)).alloc o)) ∧ (Instr.lookup 54 (.map (some u.heap.size)) (.int .i64 n) true).run Tryd.prog (u.alloc (.map oEs 10)) = .ok (.tuple #[(opr n).v, .bool (isO n)]) (u.alloc (.map oEs 10)) :=
  ⟨fun o => look_ok n ((Below.heap_alloc _ _ _ (by simp)).trans (heap_alloc_new u _)), look_ok n (heap_alloc_new u _)⟩
set_option maxHeartbeats 4000000 in
set_option maxRecDepth 100000 in
theorem fvalid_any (f : Flw) (so : Option Addr) (sc : Nat) (w : World) (hS : Stps w so f.steps) (hs : f.name.size ≤ 1000000) :
    Calls Tryd.prog 9 #[fV f so sc] w fun e w' => e = .returned (.bool (fvB f)) ∧ Below w.heap.size w w' := by
  have HID := hid (fun w => ident_any f.name w hs)
  have hsl : f.steps.length ≤ maxLen := by
    have := hS.len
    rw [stpsCells_len] at this
    omega
  obtain ⟨R, hR⟩ : ∃ R, fvB f = R := ⟨_, rfl⟩
  have HR := hid hR
  rw [hR]
  clear hR
  unfold Hid fvB at HR
  replace HR := hid HR
  obtain ⟨nm, ver, S⟩ := f
  simp only [fV] at HR HID hS hsl ⊢
  have hfb := Blk.new w #[.string nm, .int .i64 ver, .slice so S.length sc] 24
  have hB0 := below_alloc w (.cells #[.string nm, .int .i64 ver, .slice so S.length sc] 24)
  have c0 := hfb.cell 0
  simp only [List.getElem?_cons_zero] at c0
  go_enter Tryd.func9, Tryd.ntmps9
  go_wp2_with fail
  refine (HID.out _).mono ?_
  rintro e w1 ⟨rfl, hB1⟩
  have hfb1 := hfb.below hB1 hfb.lt
  replace hB1 := hB0.trans (hB1.mono hB0.size)
  clear c0 hfb hB0 HID hs
  generalize hfbn : w.heap.size = fb at hfb1 hB1 ⊢
  have HFBN := hid hfbn
  clear hfbn
  have c1 := hfb1.cell 1
  have c2 := hfb1.cell 2
  simp only [List.getElem?_cons_zero, List.getElem?_cons_succ] at c1 c2
  have HL := hid hsl
  obtain ⟨n, hn⟩ : ∃ n, S.length = n := ⟨_, rfl⟩
  rw [hn] at c2 HR hfb1
  have HN := hid hn
  clear hn hsl
  cases hid0 : idB nm.data.toList with
  | false =>
    have hR : R = false := by rw [← HR.out, hid0]; simp
    go_wp2_with fail
    go_ret
    exact ⟨ret_bool hR.symm, by rw [HFBN.out]; exact hB1⟩
  | true =>
    by_cases hv1 : ver < 1
    · have hR : R = false := by rw [← HR.out]; simp; intro _ h; omega
      go_wp2_with fail
      go_ret
      exact ⟨ret_bool hR.symm, by rw [HFBN.out]; exact hB1⟩
    · by_cases hv2 : 99 < ver
      · have hR : R = false := by rw [← HR.out]; simp; intro _ h h2; omega
        go_wp2_with fail
        go_ret
        exact ⟨ret_bool hR.symm, by rw [HFBN.out]; exact hB1⟩
      · by_cases hn1 : n < 1
        · have hR : R = false := by rw [← HR.out]; simp; intro _ h h2 h3; omega
          have hn1I : (n : Int) < 1 := by omega
          go_wp2_with fail
          go_ret
          exact ⟨ret_bool hR.symm, by rw [HFBN.out]; exact hB1⟩
        · by_cases hn2 : 40 < n
          · have hR : R = false := by rw [← HR.out]; simp; intro _ h h2 h3 h4; omega
            have hn1I : ¬ (n : Int) < 1 := by omega
            have hn2I : (40 : Int) < n := by omega
            go_wp2_with fail
            go_ret
            exact ⟨ret_bool hR.symm, by rw [HFBN.out]; exact hB1⟩
          · have hR : Hid (R = (stepsB [] S && ((maskL S).getLast? == some true))) := by
              unfold Hid
              rw [← HR.out, hid0, decide_eq_true (show 1 ≤ ver by omega), decide_eq_true (show ver ≤ 99 by omega), decide_eq_true (show 1 ≤ n by omega), decide_eq_true (show n ≤ 40 by omega)]
              simp
            have hn1I : ¬ (n : Int) < 1 := by omega
            have hn2I : ¬ (40 : Int) < n := by omega
            go_wp2_with fail
            have hn40 : n ≤ 40 := by omega
            have HNP := hid (show 1 ≤ n by omega)
            have hM0 : MineN 1 fb w w1 4 (.slice none 0 0) 0 [] := MineN.start hB1 (by have := hB1.size; have := HFBN.out; omega)
            clear c1 c2 hv1 hv2 hn1 hn2 hn1I hn2I hid0 HR hB1
            go_loopw [3, 39] (fun s3 s39 wr => ∃ (i : Nat) (M : List Bool), s39 = .int .i64 i ∧ i ≤ n ∧ MineN 1 fb w wr 4 s3 i (boolsF M) ∧ Blk wr fb 24 [.string nm, .int .i64 ver, .slice so n sc] ∧ Hid (M = maskL (S.take i)) ∧ Hid (R = (stepsB M (S.drop i) && ((maskL S).getLast? == some true)))) (fun _ s39 _ => n - (intOf s39).toNat)
            case atStart => exact ⟨0, [], rfl, by omega, hM0, hfb1, hid (by simp [maskL]), hid (by rw [hR.out]; simp)⟩
            case round =>
              clear hM0 hfb1 hR
              obtain ⟨wk, hwk⟩ : ∃ wk : World, wk = wr := ⟨_, rfl⟩
              subst hwk
              obtain ⟨i, M, rfl, hi, hM, hfb, HM, HR⟩ := hrel
              by_cases hin : i < n
              · have hinI : (i : Int) < n := by omega
                obtain ⟨s, hsi⟩ : ∃ s, S[i]? = some s := ⟨_, List.getElem?_eq_getElem (by rw [HN.out]; exact hin)⟩
                have hSt : Stps wk so S := SlV.below hS (by rw [HFBN.out]; exact hM.below)
                obtain ⟨b, off, hso, hbl, d0, d1, d2, d3⟩ := hSt.at hsi
                have hdrop : S.drop i = s :: S.drop (i + 1) := by
                  rw [List.drop_eq_getElem_cons (by rw [HN.out]; exact hin)]
                  have := List.getElem?_eq_getElem (show i < S.length by rw [HN.out]; exact hin)
                  rw [hsi] at this
                  rw [← Option.some.inj this]
                have hMs : M ++ [(opr s.op).m] = maskL (S.take (i + 1)) := by
                  rw [HM.out, List.take_add_one, hsi]; simp [maskL]
                replace HR := hid (HR.out.trans (by rw [hdrop, stepsB_cons, Bool.and_assoc]))
                have hlM : M.length = i := by rw [HM.out, maskL_len]; simp; have := HN.out; omega
                have HMM := hid hMs
                have HLM := hid hlM
                subst hso
                have HW := hid (And.intro hM hfb)
                clear hdrop hMs hlM hsi hSt hbl hM hfb HM
                obtain ⟨sop, sa, sb, sn⟩ := s
                simp only at d0 d1 d2 d3 HMM
                have hadr : off + i * 4 = off + i * 4 := rfl
                go_upto_region 7 with fail
                have h5 := Blk.new wk #[.int .i64 sop, .int .i64 sa, .int .i64 sb, .int .i64 sn] 32
                have hM5 := HW.out.1.alloc (.cells #[.int .i64 sop, .int .i64 sa, .int .i64 sb, .int .i64 sn] 32)
                have hf5 := HW.out.2.alloc (.cells #[.int .i64 sop, .int .i64 sa, .int .i64 sb, .int .i64 sn] 32)
                have hfl := HW.out.2.lt
                obtain ⟨W0, hW0⟩ : ∃ W0, (wk.alloc (.cells #[.int .i64 sop, .int .i64 sa, .int .i64 sb, .int .i64 sn] 32)) = W0 := ⟨_, rfl⟩
                rw [hW0] at h5 hM5 hf5 ⊢
                have h5l := h5.lt
                clear hW0
                generalize wk.heap.size = b5 at *
                have HFL := hid hfl
                have H5 := hid (And.intro h5 (And.intro hM5 (And.intro hf5 h5l)))
                have e0 := h5.cell 0
                have e0a : ∀ o, (W0.alloc o).cell? ⟨b5, 0, none⟩ = some (.int .i64 sop) := fun o => (h5.alloc o).cell 0
                have e0b : ∀ o o', ((W0.alloc o).alloc o').cell? ⟨b5, 0, none⟩ = some (.int .i64 sop) := fun o o' => ((h5.alloc o).alloc o').cell 0
                simp only [List.getElem?_cons_zero] at e0
                have HOP := hid (fun w => operators_is w)
                have HIN := hid hin
                obtain ⟨hl1, hl2, hl3, hl4⟩ := look_drew sop W0
                obtain ⟨ow, os, ok, ot, om, ox, hov⟩ : ∃ ow os ok ot om ox, opr sop = ⟨ow, os, ok, ot, om, ox⟩ := ⟨_, _, _, _, _, _, rfl⟩
                rw [hov] at hl1 hl2 hl3 hl4 HMM
                have HSB : Hid (stepB M ⟨sop, sa, sb, sn⟩ = (isO sop && decide (0 ≤ sn) && decide (sn ≤ ox) && opndB M ok ot 0 sa && opndB M ok ot 1 sb)) := by
                  unfold Hid stepB
                  simp only [hov]
                simp only at HMM
                have hbA : Blk ((W0.alloc (.map oEs 10)).alloc (.cells #[.string ow, .string os, .int .i64 ok, .bool ot, .bool om, .int .i64 ox] 52)).drew (W0.heap.size + 1) 52 [.string ow, .string os, .int .i64 ok, .bool ot, .bool om, .int .i64 ox] := (blk_n _ _ _ _ (by simp)).drew
                have hbB : Blk ((W0.alloc (.cells #[.string ow, .string os, .int .i64 ok, .bool ot, .bool om, .int .i64 ox] 52)).alloc (.map oEs 10)).drew W0.heap.size 52 [.string ow, .string os, .int .i64 ok, .bool ot, .bool om, .int .i64 ox] := ((Blk.new W0 _ _).alloc _).drew
                replace hbA := hid hbA
                replace hbB := hid hbB
                have HOV := hid hov
                clear h5 hM5 hf5 hfl h5l d0 d1 d2 d3 hin hov HW
                generalize isO sop = io at *
                simp only [Opr.v] at hl1 hl2 hl3 hl4 HMM
                go_cut [6, 7] from 43 to 49 (fun s6 s7 wx => ∃ ob, s6 = .pointer (some ⟨ob, 0, none⟩) ∧ s7 = .bool io ∧ Blk wx ob 52 [.string ow, .string os, .int .i64 ok, .bool ot, .bool om, .int .i64 ox] ∧ Below W0.heap.size W0 wx ∧ W0.heap.size ≤ ob)
                case first =>
                  go_region_with
                    (go_at_call 19; refine (HOP.out _).mono ?_; rintro e8 w8 ⟨rfl, rfl⟩)
                  all_goals
                    go_wp2_with fail
                    go_meet
                    case rel =>
                      refine ⟨_, rfl, rfl, ?_, ((below_alloc _ _).alloc (by simp) _).drew, by omega⟩
                      first | with_reducible exact hbA.out | with_reducible exact hbB.out
                case rest =>
                  obtain ⟨ob, rfl, rfl, hob, hBx, hobl⟩ := hcut
                  obtain ⟨h5, hM5, hf5, h5l⟩ := H5.out
                  have n1 : b5 < ob := by omega
                  replace h5 := h5.below hBx h5.lt
                  replace hf5 := hf5.below hBx hf5.lt
                  have hM : MineN 1 fb w wc 4 u3 i (boolsF M) := ⟨ownsRow_chgN hM5.own (Chg.ofBelow (S := fun _ => False) hBx) (fun _ _ h => h), hM5.below.trans (hBx.mono hM5.base), Nat.le_trans hM5.base hBx.size⟩
                  clear hbA hbB hl1 hl2 hl3 hl4 e0 e0a e0b HOP H5 hM5 h5l hBx
                  have H := hid (And.intro h5 (And.intro hf5 (And.intro hM (And.intro hob n1))))
                  have s1 := h5.cell 1
                  have s2 := h5.cell 2
                  have s3 := h5.cell 3
                  have o5 := hob.cell 5
                  simp only [List.getElem?_cons_zero, List.getElem?_cons_succ] at s1 s2 s3 o5
                  clear h5 hf5 hM hob hobl n1
                  cases io with
                  | false =>
                    have hR : R = false := by rw [HR.out, HSB.out]; simp
                    go_wp2_with fail
                    go_ret
                    exact ⟨ret_bool (by first | rfl | exact hR.symm), by rw [HFBN.out]; exact H.out.2.2.1.below⟩
                  | true =>
                    by_cases hn1 : sn < 0
                    · have hR : R = false := by rw [HR.out, HSB.out, decide_eq_false (show ¬ 0 ≤ sn by omega)]; simp
                      go_wp2_with fail
                      go_ret
                      exact ⟨ret_bool (by first | rfl | exact hR.symm), by rw [HFBN.out]; exact H.out.2.2.1.below⟩
                    · by_cases hn2 : ox < sn
                      · have hR : R = false := by rw [HR.out, HSB.out, decide_eq_false (show ¬ sn ≤ ox by omega)]; simp
                        go_wp2_with fail
                        go_ret
                        exact ⟨ret_bool (by first | rfl | exact hR.symm), by rw [HFBN.out]; exact H.out.2.2.1.below⟩
                      · replace HR : Hid (R = (opndB M ok ot 0 sa && (opndB M ok ot 1 sb && (stepsB (M ++ [om]) (S.drop (i + 1)) && ((maskL S).getLast? == some true))))) := by
                          unfold Hid
                          rw [HR.out, HSB.out, decide_eq_true (show 0 ≤ sn by omega), decide_eq_true (show sn ≤ ox by omega)]
                          simp only [HOV.out, Bool.true_and, Bool.and_assoc]
                        go_wp2_with fail
                        clear s3 o5 hn1 hn2 s1 s2 HSB
                        obtain ⟨h5, hf5, hM, hob, n1⟩ := H.out
                        clear H
                        have h6 := Blk.new wc #[.int .i64 sa, .int .i64 sb] 3
                        have hM6 := hM.alloc (.cells #[.int .i64 sa, .int .i64 sb] 3)
                        have hob6 := hob.alloc (.cells #[.int .i64 sa, .int .i64 sb] 3)
                        have hf6 := hf5.alloc (.cells #[.int .i64 sa, .int .i64 sb] 3)
                        obtain ⟨W6, hW6⟩ : ∃ W6, wc.alloc (.cells #[.int .i64 sa, .int .i64 sb] 3) = W6 := ⟨_, rfl⟩
                        rw [hW6] at h6 hM6 hob6 hf6 ⊢
                        clear hW6 h5 hf5 hM hob n1
                        generalize wc.heap.size = b6 at *
                        obtain ⟨mo, mc, hu3, hsl, -⟩ := hM6.slv (by rw [boolsF_len, HLM.out]; unfold maxLen; omega)
                        subst hu3
                        have H6 := hid (And.intro h6 (And.intro hM6 (And.intro hob6 (And.intro hf6 hsl))))
                        clear h6 hM6 hob6 hf6 hsl hadr
                        go_loopw [70] (fun s70 wr => ∃ k : Nat, s70 = .int .i64 k ∧ k ≤ 2 ∧ Below W6.heap.size W6 wr ∧ Hid ((0 < k → opndB M ok ot 0 sa = true) ∧ (1 < k → opndB M ok ot 1 sb = true))) (fun s70 _ => 2 - (intOf s70).toNat)
                        case atStart => exact ⟨0, rfl, by omega, Below.refl _ _, hid ⟨by omega, by omega⟩⟩
                        case round =>
                          obtain ⟨wq, hwq⟩ : ∃ wq : World, wq = wr := ⟨_, rfl⟩
                          subst hwq
                          obtain ⟨k, rfl, hk, hB, HK⟩ := hrel
                          obtain ⟨h6, hM6, hob6, hf6, hsl⟩ := H6.out
                          by_cases hk2 : k < 2
                          · have hk2I : (k : Int) < 2 := by omega
                            obtain ⟨a, ha⟩ : ∃ a, (if k = 0 then sa else sb) = a := ⟨_, rfl⟩
                            have c6 : wq.cell? ⟨b6, k, none⟩ = some (.int .i64 a) := by
                              rw [(h6.below hB h6.lt).cell, ← ha]
                              rcases (by omega : k = 0 ∨ k = 1) with rfl | rfl <;> rfl
                            have o2 := (hob6.below hB hob6.lt).cell 2
                            have o3 := (hob6.below hB hob6.lt).cell 3
                            simp only [List.getElem?_cons_zero, List.getElem?_cons_succ] at o2 o3
                            have k2 := cell_regrown o2
                            have k3 := cell_regrown o3
                            have hslq := SlV.below hsl hB
                            have HA := hid ha
                            clear h6 hM6 hob6 hf6 hsl ha o2 o3
                            go_upto_region 13 with fail
                            go_cut [107] from 75 to 107 (fun s107 wx => s107 = .bool (!opndB M ok ot k a) ∧ Below wq.heap.size wq wx)
                            case first =>
                              refine wp_region_quiet_below (by kernel_rfl) (by kernel_rfl) ?_
                              clear c6
                              by_cases hok : ok ≤ k
                              · have hokn : ¬ (k : Int) < ok := by omega
                                by_cases ha0 : a = 0
                                · have HOPB : Hid (opndB M ok ot k a = true) := by unfold Hid opndB; rw [if_pos hok, ha0]; rfl
                                  subst ha0
                                  repeat (first | go_big_quiet_step (fail) | quiet_step (fail))
                                  refine wpQuiet_nil ?_
                                  intro _ hw'
                                  obtain ⟨⟨dq, osq⟩, hw''⟩ := hw'
                                  subst hw''
                                  go_wp2_with fail
                                  go_meet
                                  case rel => exact ⟨by rw [HOPB.out]; rfl, below_regrown wq dq osq⟩
                                · have HOPB : Hid (opndB M ok ot k a = false) := by unfold Hid opndB; rw [if_pos hok]; exact decide_eq_false ha0
                                  have ha1 : (a == 0) = false := beq_eq_false_iff_ne.2 ha0
                                  repeat (first | go_big_quiet_step (fail) | quiet_step (fail))
                                  refine wpQuiet_nil ?_
                                  intro _ hw'
                                  obtain ⟨⟨dq, osq⟩, hw''⟩ := hw'
                                  subst hw''
                                  go_wp2_with fail
                                  go_meet
                                  case rel => exact ⟨by rw [HOPB.out]; rfl, below_regrown wq dq osq⟩
                              · have hokn : (k : Int) < ok := by omega
                                by_cases ha0 : a < 0
                                · have HOPB : Hid (opndB M ok ot k a = false) := by unfold Hid opndB; rw [if_neg hok, decide_eq_false (show ¬ 0 ≤ a by omega)]; rfl
                                  repeat (first | go_big_quiet_step (fail) | quiet_step (fail))
                                  refine wpQuiet_nil ?_
                                  intro _ hw'
                                  obtain ⟨⟨dq, osq⟩, hw''⟩ := hw'
                                  subst hw''
                                  go_wp2_with fail
                                  go_meet
                                  case rel => exact ⟨by rw [HOPB.out]; rfl, below_regrown wq dq osq⟩
                                · by_cases ha1 : (i : Int) ≤ a
                                  · have HOPB : Hid (opndB M ok ot k a = false) := by unfold Hid opndB; rw [if_neg hok, HLM.out, decide_eq_false (show ¬ a < i by omega)]; simp
                                    repeat (first | go_big_quiet_step (fail) | quiet_step (fail))
                                    refine wpQuiet_nil ?_
                                    intro _ hw'
                                    obtain ⟨⟨dq, osq⟩, hw''⟩ := hw'
                                    subst hw''
                                    go_wp2_with fail
                                    go_meet
                                    case rel => exact ⟨by rw [HOPB.out]; rfl, below_regrown wq dq osq⟩
                                  · obtain ⟨j, rfl⟩ : ∃ j : Nat, a = j := ⟨a.toNat, by omega⟩
                                    have hji : j < i := by omega
                                    have hjI : (j : Int) < i := by omega
                                    obtain ⟨b0, hb0⟩ : ∃ b0, M[j]? = some b0 := ⟨_, List.getElem?_eq_getElem (by rw [HLM.out]; exact hji)⟩
                                    obtain ⟨mb, moff, hmo, hmbl, hmc⟩ := hslq.cell j (.bool b0) (boolsF_get hb0)
                                    subst hmo
                                    have km := cell_regrown hmc
                                    have HOPB : Hid (opndB M ok ot k j = (b0 == ot)) := by unfold Hid opndB; rw [if_neg hok, HLM.out, decide_eq_true (show (0 : Int) ≤ j by omega), decide_eq_true hjI, Int.toNat_natCast, hb0]; simp
                                    clear hmc hmbl hslq hb0
                                    by_cases hbo : b0 = ot
                                    · replace HOPB := hid (HOPB.out.trans (show (b0 == ot) = true by rw [hbo]; simp))
                                      subst hbo
                                      have hbb : (b0 == b0) = true := by simp
                                      repeat (first | go_big_quiet_step (fail) | quiet_step (fail))
                                      refine wpQuiet_nil ?_
                                      intro _ hw'
                                      obtain ⟨⟨dq, osq⟩, hw''⟩ := hw'
                                      subst hw''
                                      go_wp2_with fail
                                      go_meet
                                      case rel => exact ⟨by rw [HOPB.out]; rfl, below_regrown wq dq osq⟩
                                    · replace HOPB := hid (HOPB.out.trans (show (b0 == ot) = false by simpa using hbo))
                                      have hbb : (b0 == ot) = false := by simpa using hbo
                                      repeat (first | go_big_quiet_step (fail) | quiet_step (fail))
                                      refine wpQuiet_nil ?_
                                      intro _ hw'
                                      obtain ⟨⟨dq, osq⟩, hw''⟩ := hw'
                                      subst hw''
                                      go_wp2_with fail
                                      go_meet
                                      case rel => exact ⟨by rw [HOPB.out]; rfl, below_regrown wq dq osq⟩
                            case rest =>
                              obtain ⟨rfl, hBx⟩ := hcut
                              replace hB := hB.trans (hBx.mono hB.size)
                              clear c6 k2 k3 hslq hBx
                              cases hop : opndB M ok ot k a with
                              | false =>
                                have hR : R = false := by
                                  rcases (by omega : k = 0 ∨ k = 1) with rfl | rfl
                                  · have ha : sa = a := HA.out
                                    rw [HR.out, ha, hop]; rfl
                                  · have ha : sb = a := HA.out
                                    rw [HR.out, ha, hop]; simp
                                clear hop
                                go_wp2_with fail
                                go_ret
                                refine ⟨ret_bool (by first | rfl | exact hR.symm), ?_⟩
                                obtain ⟨-, hM6, -, -, -⟩ := H6.out
                                rw [HFBN.out]
                                exact hM6.below.trans (hB.mono hM6.base)
                              | true =>
                                have HK2 : Hid ((0 < k + 1 → opndB M ok ot 0 sa = true) ∧ (1 < k + 1 → opndB M ok ot 1 sb = true)) := by
                                  refine ⟨fun _ => ?_, fun h1 => ?_⟩
                                  · rcases (by omega : k = 0 ∨ k = 1) with rfl | rfl
                                    · have ha : sa = a := HA.out
                                      rw [ha, ← hop]
                                    · exact HK.out.1 (by omega)
                                  · obtain rfl : k = 1 := by omega
                                    have ha : sb = a := HA.out
                                    rw [ha, ← hop]
                                clear hop
                                go_wp2_with fail
                                go_roundw
                                case rel => exact ⟨k + 1, by go_num, by omega, hB, HK2⟩
                                case measure => simp [intOf]; omega
                          · obtain rfl : k = 2 := by omega
                            replace HR : Hid (R = (stepsB (M ++ [om]) (S.drop (i + 1)) && ((maskL S).getLast? == some true))) := by
                              unfold Hid
                              rw [HR.out, HK.out.1 (by omega), HK.out.2 (by omega)]
                              rfl
                            have o4 := (hob6.below hB hob6.lt).cell 4
                            simp only [List.getElem?_cons_zero, List.getElem?_cons_succ] at o4
                            have hMq : MineN 1 fb w wq 4 (.slice mo i mc) i (boolsF M) := ⟨ownsRow_chgN hM6.own (Chg.ofBelow (S := fun _ => False) hB) (fun _ _ h => h), hM6.below.trans (hB.mono hM6.base), Nat.le_trans hM6.base hB.size⟩
                            have hfq := hf6.below hB hf6.lt
                            have hL1 : i + 1 ≤ maxLen := by unfold maxLen; omega
                            have hL2 : (i + 1) * 1 ≤ 140737488355328 := by omega
                            have hone : ∀ u ∈ (#[Value.bool om] : Array Value).toList, u.oneCell' = true := by intro u hu; simp at hu; subst hu; rfl
                            have HFQ := hid hfq
                            have HMQ := hid hMq
                            clear hB h6 hM6 hob6 hf6 hsl H6 hfq hMq hk2
                            go_wp2_with (at_builtin; refine wpl_appN rfl _ _ 50 rfl 4 _ 1 1 Tryd.underlying50 Tryd.boolInfo rfl (by decide) _ _ _ _ _ HMQ.out rfl #[.bool om] rfl hone rfl hL1 hL2 ?_; intro g2 cap2 w9 hm9 hg9 hBg9 hat9)
                            go_roundw
                            case rel =>
                              refine ⟨i + 1, M ++ [om], by go_num, by omega, ?_, blk_gr HMQ.out.own hg9 fb _ _ (by decide) HFQ.out, HMM, HR⟩
                              have e1 : boolsF (M ++ [om]) = boolsF M ++ [.bool om] := by simp [boolsF]
                              rw [e1]
                              exact hm9
                            case measure => simp [intOf]; have := HIN.out; omega
              · have hinI : ¬ (i : Int) < n := by omega
                obtain rfl : i = n := by omega
                have hMS : M = maskL S := by rw [HM.out, List.take_of_length_le (by rw [HN.out]; exact Nat.le_refl _)]
                have hlM : M.length = i := by rw [hMS, maskL_len, HN.out]
                obtain ⟨m, rfl⟩ : ∃ m, i = m + 1 := ⟨i - 1, by have := HNP.out; omega⟩
                obtain ⟨b0, hb0⟩ : ∃ b0, M[m]? = some b0 := ⟨_, List.getElem?_eq_getElem (by omega)⟩
                have hR : R = b0 := by
                  rw [HR.out, List.drop_of_length_le (by rw [HN.out]; exact Nat.le_refl _), ← hMS, List.getLast?_eq_getElem?, hlM, Nat.add_sub_cancel, hb0]
                  cases b0 <;> rfl
                obtain ⟨mo, mc, hu3, hsl, -⟩ := hM.slv (by rw [boolsF_len, hlM]; unfold maxLen; omega)
                subst hu3
                obtain ⟨mb, moff, hmo, hmbl, hmc⟩ := hsl.cell m (.bool b0) (boolsF_get hb0)
                subst hmo
                have hBf := hid hM.below
                have hi3 : ((m + 1 : Nat) : Int) - 1 = (m : Int) := by omega
                have hi4 : (m : Int) < ((m + 1 : Nat) : Int) := by omega
                have hi5 : m < m + 1 := by omega
                have HRR := hid hR
                clear hMS hlM hb0 hR hsl hmbl hM hfb HM HR hi hin
                go_wp2_with fail
                go_ret
                exact ⟨ret_bool HRR.out.symm, by rw [HFBN.out]; exact hBf.out⟩
end Go.Proofs.YtogcnmjipfllaaaDoor
