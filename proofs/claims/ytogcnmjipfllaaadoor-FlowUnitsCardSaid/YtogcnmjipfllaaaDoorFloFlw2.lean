/- flow: the parser's flow -/
import Derived.Test.YtogcnmjipfllaaaDoorFloAp
namespace Go.Proofs.YtogcnmjipfllaaaDoor
open Go.RowKit

def FlowPost (pb en : Nat) (w : World) (r : PR Flw) (e : Ending) (w' : World) : Prop :=
  match r with
  | .ok f r => e = .returned (.tuple #[]) ∧ ∃ nv sv, PB w' pb ⟨en, nv, f.name, f.ver, sv⟩ r ∧ w'.ownsRow w.heap.size 32 4 sv f.steps.length (stpsCells f.steps) ∧ Chg (fun b => b = pb) w w' ∧ f.steps.length ≤ 40
  | .bad x n => e = panicE x n ∧ Chg (fun b => b = pb) w w'
set_option maxHeartbeats 4000000 in
set_option maxRecDepth 100000 in
theorem flow_any (pb en : Nat) (ts : List Tok) (w : World) (hP : PB w pb ⟨en, .slice none 0 0, ⟨#[]⟩, 0, .slice none 0 0⟩ ts) (hl : ts.length ≤ 1000000) :
    Calls Tryd.prog 26 #[pT pb] w (FlowPost pb en w (flowF en ts)) := by
  obtain ⟨RS, hRS⟩ : ∃ RS, flowF en ts = RS := ⟨_, rfl⟩
  have HRS := hid hRS
  rw [hRS]
  clear hRS
  have hpl := hP.lt
  have HP := hid hP
  clear hP
  unfold Hid flowF at HRS
  replace HRS := hid HRS
  obtain ⟨r1, hr1⟩ : ∃ r1, mustF en 1 [102, 108, 111, 119] ts = r1 := ⟨_, rfl⟩
  have hcl := hid (must_any pb 1 [102, 108, 111, 119] _ ts w HP.out hl)
  simp only at hcl
  rw [hr1] at HRS hcl
  unfold pT at hcl ⊢
  go_enter Tryd.func26, Tryd.ntmps26
  go_wp2_with fail
  refine (hcl.out).mono ?_
  clear hcl
  cases r1 with
  | bad x n =>
    rintro e w1 ⟨rfl, hC1⟩
    refine ⟨rfl, ?_⟩
    rw [← HRS.out]
    exact ⟨rfl, hC1⟩
  | ok t1 ts1 =>
    rintro e w1 ⟨rfl, hP1, hC1⟩
    replace HRS := hid ((PR.bind_ok _ _ _).symm.trans HRS.out)
    have hl1 : ts1.length ≤ 1000000 := by have := mustF_len hr1; omega
    clear hr1
    obtain ⟨r2, hr2⟩ : ∃ r2, mustF en 1 [] ts1 = r2 := ⟨_, rfl⟩
    have hcl := hid (must_any pb 1 [] _ ts1 w1 hP1 hl1)
    simp only at hcl
    rw [hr2] at HRS hcl
    unfold pT at hcl
    unfold tokC
    go_wp2_with fail
    refine (hcl.out).mono ?_
    clear hcl hP1
    cases r2 with
    | bad x n =>
      rintro e w2 ⟨rfl, hC2⟩
      refine ⟨rfl, ?_⟩
      rw [← HRS.out]
      exact ⟨rfl, hC1.trans hC2⟩
    | ok t2 ts2 =>
      rintro e w2 ⟨rfl, hP2, hC2⟩
      replace HRS := hid ((PR.bind_ok _ _ _).symm.trans HRS.out)
      have hl2 : ts2.length ≤ 1000000 := by have := mustF_len hr2; omega
      clear hr2
      replace hC1 := hC1.trans hC2
      obtain ⟨ao, cap, hb2⟩ := hP2.blk
      have c3 := hb2.cell 3
      have f3 := hb2.free 3
      simp only [List.getElem?_cons_zero, List.getElem?_cons_succ] at c3
      have hP3 : PB (w2.setCell ⟨pb, 3, none⟩ (.string ⟨t2.t.toArray⟩)) pb ⟨en, .slice none 0 0, ⟨t2.t.toArray⟩, 0, .slice none 0 0⟩ ts2 :=
        hP2.upd ((Chg.refl _ w2).set (p := ⟨pb, 3, none⟩) (.inl rfl) _) (fun ao cap h => h.set 3 _)
      have hC3 := hC1.set (p := ⟨pb, 3, none⟩) rfl (.string ⟨t2.t.toArray⟩)
      clear hC1 hC2 hP2 hb2
      obtain ⟨r3, hr3⟩ : ∃ r3, numF en 1 99 ts2 = r3 := ⟨_, rfl⟩
      have hcl := hid (num_any pb 1 99 _ ts2 _ hP3 hl2)
      simp only at hcl
      rw [hr3] at HRS hcl
      obtain ⟨t2k, t2t, t2n, t2a⟩ := t2
      have hfld : ∀ w', (Instr.field 82 (.agg #[.int .i64 t2k, .string ⟨t2t.toArray⟩, .int .i64 t2n, .int .i64 t2a]) 1).run Tryd.prog w' = .ok (.string ⟨t2t.toArray⟩) w' := fun w' => by kernel_rfl
      simp only at hcl c3 hP3 hC3 HRS
      unfold pT at hcl
      unfold tokC
      have HP3 := hid (And.intro hP3 hC3)
      clear hP3 hC3
      go_wp2_with fail
      refine (hcl.out).mono ?_
      clear hcl c3 f3 hfld
      obtain ⟨hP3, hC3⟩ := HP3.out
      cases r3 with
      | bad x n =>
        rintro e w3 ⟨rfl, hC4⟩
        refine ⟨rfl, ?_⟩
        rw [← HRS.out]
        exact ⟨rfl, hC3.trans hC4⟩
      | ok v ts3 =>
        rintro e w3 ⟨rfl, hP4, hC4⟩
        replace HRS := hid ((PR.bind_ok _ _ _).symm.trans HRS.out)
        have hl3 : ts3.length ≤ 1000000 := by have := numF_len hr3; omega
        replace hC3 := hC3.trans hC4
        clear hr3 hP3 hC4 HP3
        obtain ⟨ao, cap, hb2⟩ := hP4.blk
        have c4 := hb2.cell 4
        have f4 := hb2.free 4
        simp only [List.getElem?_cons_zero, List.getElem?_cons_succ] at c4
        have hP5 : PB (w3.setCell ⟨pb, 4, none⟩ (.int .i64 v)) pb ⟨en, .slice none 0 0, ⟨t2t.toArray⟩, v, .slice none 0 0⟩ ts3 :=
          hP4.upd ((Chg.refl _ w3).set (p := ⟨pb, 4, none⟩) (.inl rfl) _) (fun ao cap h => h.set 4 _)
        have hC5 := hC3.set (p := ⟨pb, 4, none⟩) rfl (.int .i64 v)
        obtain ⟨r4, hr4⟩ : ∃ r4, mustF en 4 [123] ts3 = r4 := ⟨_, rfl⟩
        have hcl := hid (must_any pb 4 [123] _ ts3 _ hP5 hl3)
        simp only at hcl
        rw [hr4] at HRS hcl
        have HP5 := hid (And.intro hP5 hC5)
        clear hP4 hC3 hb2 hP5 hC5
        unfold pT at hcl
        go_wp2_with fail
        refine (hcl.out).mono ?_
        clear hcl c4 f4
        obtain ⟨hP5, hC5⟩ := HP5.out
        cases r4 with
        | bad x n =>
          rintro e w5 ⟨rfl, hC6⟩
          refine ⟨rfl, ?_⟩
          rw [← HRS.out]
          exact ⟨rfl, hC5.trans hC6⟩
        | ok t4 ts4 =>
          rintro e w5 ⟨rfl, hP6, hC6⟩
          replace HRS := hid ((PR.bind_ok _ _ _).symm.trans HRS.out)
          have hl4 : ts4.length ≤ 1000000 := by have := mustF_len hr4; omega
          have hFL : FL w w5 pb ⟨en, .slice none 0 0, ⟨t2t.toArray⟩, v, .slice none 0 0⟩ [] [] ts4 :=
            ⟨hP6, World.ownsRow_nil _ _ _ _, World.ownsRow_nil _ _ _ _, hC5.trans hC6, rfl, by simp, hpl⟩
          clear hr4 hP5 hC5 HP5 hP6 hC6 HP hl hl1 hl2 hl3
          generalize (⟨t2t.toArray⟩ : ByteArray) = nm at *
          unfold tokC
          go_wp2_with fail
          go_loopg [2] (ts4.length + 1) (fun gk s2 wr => ∃ (nv sv : Value) (N : List ByteArray) (S : List Stp) (ts : List Tok), FL w wr pb ⟨en, nv, nm, v, sv⟩ N S ts ∧ ts.length ≤ 1000000 ∧ ts.length < gk ∧ Hid ((loopF en gk N S ts).bind (fun ns r4 => tailF en nm v ns.1 ns.2 r4.tail) = RS))
          case atStart => exact ⟨_, _, [], [], ts4, hFL, hl4, by omega, HRS⟩
          case round =>
            clear hFL HRS hl4
            obtain ⟨nv, sv, N, S, ts, hFL, hl, hg, HRS⟩ := hrel
            obtain ⟨g, rfl⟩ : ∃ g, gk = g + 1 := ⟨gk - 1, by omega⟩
            have hse := hid (sees_any pb 1 [111, 117, 116] _ ts wr hFL.box)
            obtain ⟨bo, hbo⟩ : ∃ bo, seesB 1 [111, 117, 116] ts = bo := ⟨_, rfl⟩
            rw [hbo] at hse
            have HBO := hid hbo
            clear hbo
            unfold pT at hse
            go_wp2_with fail
            refine (hse.out).mono ?_
            rintro e w6 ⟨rfl, rfl⟩
            clear hse
            cases bo with
            | true =>
              rw [loopF_out HBO.out] at HRS
              replace HRS := hid ((PR.bind_ok _ _ _).symm.trans HRS.out)
              obtain ⟨t, r, rfl⟩ : ∃ t r, ts = t :: r := by
                cases ts with
                | nil => exact absurd HBO.out (by simp [seesB])
                | cons t r => exact ⟨t, r, rfl⟩
              simp only [List.tail_cons] at HRS
              have hta := hid (take_any pb _ t r wr hFL.box)
              have HFL := hid hFL
              clear hFL HBO
              unfold pT at hta
              go_wp2_with fail
              refine (hta.out).mono ?_
              rintro e w6 ⟨rfl, hP6, hC6⟩
              replace HFL := hid (HFL.out.take hP6 hC6)
              have hlr : r.length ≤ 1000000 := by simp at hl; omega
              clear hta hP6 hC6 hl hg
              obtain ⟨fb, hfb⟩ : ∃ fb, freeB r = fb := ⟨_, rfl⟩
              cases fb with
              | false =>
                rw [tailF_bad hfb] at HRS
                have hfa := hid (free_no pb _ r w6 HFL.out.box hlr hfb rfl)
                unfold pT at hfa
                unfold tokC
                go_wp2_with fail
                refine (hfa.out).mono ?_
                rintro e w7 ⟨rfl, hB7⟩
                refine ⟨rfl, ?_⟩
                rw [← HRS.out]
                exact ⟨rfl, HFL.out.chg.trans (Chg.ofBelow hB7)⟩
              | true =>
                obtain ⟨t2, r2, rfl⟩ : ∃ t r', r = t :: r' := by
                  cases r with
                  | nil => cases hfb
                  | cons t r => exact ⟨t, r, rfl⟩
                have hfa := hid (free_is HFL.out.box hlr hfb)
                have HFB := hid hfb
                clear hfb
                unfold pT at hfa
                unfold tokC
                go_wp2_with fail
                refine (hfa.out).mono ?_
                rintro e w7 ⟨rfl, hB7⟩
                replace HFL := hid (HFL.out.below hB7)
                clear hfa hB7
                obtain ⟨no, nc, so, sc, hnv, hsN, hsv, hsS, -, -, hlen, h1000⟩ := HFL.out.ns
                simp only at hnv hsv
                obtain ⟨ao, cap, hbx⟩ := HFL.out.box.blk
                have c2 := hbx.cell 2
                simp only [List.getElem?_cons_zero, List.getElem?_cons_succ, hnv] at c2
                have k2 := cell_regrown c2
                by_cases hN0 : N.length = 0
                · rw [tailF_name HFB.out (.inl hN0)] at HRS
                  rw [hN0] at k2
                  clear c2 hbx hnv hsN hsv hsS hN0
                  have hHF := hid (fun (w' : World) (hB : Below w7.heap.size w7 w') => fail_is pb 7 _ _ w' (HFL.out.box.below hB) hlr rfl)
                  unfold pT at hHF
                  go_wp2_with fail
                  refine wp_region_quiet_below (by kernel_rfl) (by kernel_rfl) ?_
                  repeat (first | go_big_quiet_step (fail) | quiet_step (fail))
                  refine wpQuiet_nil ?_
                  intro _ hw'
                  obtain ⟨⟨dq, osq⟩, hw''⟩ := hw'
                  subst hw''
                  have hB8 := below_regrown w7 dq osq
                  clear k2
                  go_wp2_with fail
                  refine (hHF.out _ hB8).mono ?_
                  rintro e w9 ⟨rfl, rfl⟩
                  refine ⟨rfl, ?_⟩
                  rw [← HRS.out]
                  exact ⟨rfl, HFL.out.chg.trans (Chg.ofBelow hB8)⟩
                · obtain ⟨m, hm⟩ : ∃ m, N.length = m + 1 := ⟨N.length - 1, by omega⟩
                  obtain ⟨x, hx⟩ : ∃ x, N[m]? = some x := ⟨_, List.getElem?_eq_getElem (by omega)⟩
                  obtain ⟨xl, hxl⟩ : ∃ xl : List UInt8, x = ⟨xl.toArray⟩ := ⟨x.data.toList, by simp⟩
                  subst hxl
                  have hlast : N.getLast? = some ⟨xl.toArray⟩ := by rw [List.getLast?_eq_getElem?, hm, Nat.add_sub_cancel]; exact hx
                  obtain ⟨b, off, hno, hb, hcx⟩ := hsN.cell m (.string ⟨xl.toArray⟩) (by unfold strV; rw [List.getElem?_map, hx]; rfl)
                  rw [hno] at k2
                  rw [hm] at k2
                  have kx := cell_regrown hcx
                  have HM1 := hid hm
                  have HLAST := hid hlast
                  have hi1 : (0 : Int) < ((m + 1 : Nat) : Int) := by omega
                  have hi2 : ¬ ((m + 1 : Nat) : Int) = 0 := by omega
                  have hi3 : ((m + 1 : Nat) : Int) - 1 = (m : Int) := by omega
                  have hi4 : (m : Int) < ((m + 1 : Nat) : Int) := by omega
                  have hi5 : m < m + 1 := by omega
                  have hm40 : m ≤ 39 := by have := HFL.out.few; omega
                  have hwr : IntKind.i64.wrap (m : Int) = m := IntWalk.i64_in _ (by omega)
                  have hi6 : ((m : Int) + 1 == 0) = false := by rw [beq_eq_false_iff_ne]; omega
                  have HMK := hid (fun (s : Stp) (hs : S[m]? = some s) (w' : World) (hB : Below w7.heap.size w7 w') => makes_any pb _ (t2 :: r2) so sc S m s w' (HFL.out.box.below hB) hsv (SlV.below hsS hB) hs (by omega))
                  have HSM : Hid (∃ s, S[m]? = some s) := ⟨_, List.getElem?_eq_getElem (by omega)⟩
                  clear c2 hbx hnv hsN hsv hsS hN0 hm hx hlast hno hb hcx h1000 hlen
                  by_cases hox : t2.t = xl
                  · have hcond : ¬ (N.length = 0 ∨ some (⟨t2.t.toArray⟩ : ByteArray) ≠ N.getLast?) := by
                      rw [HLAST.out, HM1.out, hox]; simp
                    have HCOND := hid hcond
                    have hHF := hid (fun (w' : World) (hB : Below w7.heap.size w7 w') => fail_is pb 1 _ _ w' (HFL.out.box.below hB) hlr rfl)
                    have hHT := hid (fun (w' : World) (hB : Below w7.heap.size w7 w') => take_any pb _ t2 r2 w' (HFL.out.box.below hB))
                    have hob : (t2.t == xl) = true := by rw [hox]; exact beq_self_eq_true _
                    obtain ⟨s, hs⟩ := HSM.out
                    have hMK := hid (HMK.out s hs)
                    have hmk : mkB S ((N.length - 1 : Nat) : Int) = (opr s.op).m := by rw [HM1.out]; unfold mkB; rw [Nat.add_sub_cancel, Int.toNat_natCast, hs]
                    have HMKB := hid hmk
                    unfold pT at hHF hHT hMK
                    clear HMK HSM hs hmk hcond
                    generalize (opr s.op).m = mk at *
                    go_wp2_with fail
                    refine wp_region_quiet_below (by kernel_rfl) (by kernel_rfl) ?_
                    repeat (first | go_big_quiet_step (fail) | quiet_step (fail))
                    refine wpQuiet_nil ?_
                    intro _ hw'
                    obtain ⟨⟨dq, osq⟩, hw''⟩ := hw'
                    subst hw''
                    have hB8 := below_regrown w7 dq osq
                    have c2 := k2 dq osq
                    clear k2 kx
                    generalize Go.Sort.grow (redrawn w7 dq) osq = w8 at *
                    go_wp2_with fail
                    refine (hMK.out _ hB8).mono ?_
                    rintro e w9 ⟨rfl, hB9⟩
                    replace hB9 := hB8.trans (hB9.mono hB8.size)
                    clear hMK c2 hB8
                    cases mk with
                    | false =>
                      rw [tailF_arg HFB.out HCOND.out HMKB.out] at HRS
                      go_wp2_with fail
                      refine (hHF.out _ hB9).mono ?_
                      rintro e w10 ⟨rfl, rfl⟩
                      refine ⟨rfl, ?_⟩
                      rw [← HRS.out]
                      exact ⟨rfl, HFL.out.chg.trans (Chg.ofBelow hB9)⟩
                    | true =>
                      rw [tailF_go HFB.out HCOND.out HMKB.out] at HRS
                      go_wp2_with fail
                      refine (hHT.out _ hB9).mono ?_
                      rintro e w10 ⟨rfl, hP10, hC10⟩
                      replace HFL := hid ((HFL.out.below hB9).take hP10 hC10)
                      have hl2 : r2.length ≤ 1000000 := by simp at hlr; omega
                      clear hHF hHT hB9 hP10 hC10 hlr HCOND HMKB HFB HLAST HM1 hox hob hi1 hi2 hi3 hi4 hi5 hi6 hwr hm40
                      obtain ⟨q1, hq1⟩ : ∃ q1, mustF en 4 [59] r2 = q1 := ⟨_, rfl⟩
                      have hcl := hid (must_any pb 4 [59] _ r2 w10 HFL.out.box hl2)
                      simp only at hcl
                      rw [hq1] at HRS hcl
                      unfold pT at hcl
                      unfold tokC
                      go_wp2_with fail
                      refine (hcl.out).mono ?_
                      clear hcl
                      cases q1 with
                      | bad x n =>
                        rintro e w11 ⟨rfl, hC11⟩
                        refine ⟨rfl, ?_⟩
                        rw [← HRS.out]
                        exact ⟨rfl, HFL.out.chg.trans hC11⟩
                      | ok t11 r11 =>
                        rintro e w11 ⟨rfl, hP11, hC11⟩
                        rw [PR.bind_ok] at HRS
                        replace HFL := hid (HFL.out.take hP11 hC11)
                        have hl11 : r11.length ≤ 1000000 := by have := mustF_len hq1; omega
                        clear hP11 hC11 hq1
                        obtain ⟨q2, hq2⟩ : ∃ q2, mustF en 4 [125] r11 = q2 := ⟨_, rfl⟩
                        have hcl := hid (must_any pb 4 [125] _ r11 w11 HFL.out.box hl11)
                        simp only at hcl
                        rw [hq2] at HRS hcl
                        unfold pT at hcl
                        unfold tokC
                        go_wp2_with fail
                        refine (hcl.out).mono ?_
                        clear hcl
                        cases q2 with
                        | bad x n =>
                          rintro e w12 ⟨rfl, hC12⟩
                          refine ⟨rfl, ?_⟩
                          rw [← HRS.out]
                          exact ⟨rfl, HFL.out.chg.trans hC12⟩
                        | ok t12 r12 =>
                          rintro e w12 ⟨rfl, hP12, hC12⟩
                          rw [PR.bind_ok] at HRS
                          replace HFL := hid (HFL.out.take hP12 hC12)
                          have hl12 : r12.length ≤ 1000000 := by have := mustF_len hq2; omega
                          clear hP12 hC12 hq2
                          obtain ⟨ao, cap, hbx⟩ := HFL.out.box.blk
                          have c0 := hbx.cell 0
                          simp only [List.getElem?_cons_zero] at c0
                          have hHF := hid (fail_is pb 5 _ r12 w12 HFL.out.box hl12 rfl)
                          unfold pT at hHF
                          clear hbx
                          cases r12 with
                          | nil =>
                            rw [if_pos rfl] at HRS
                            simp only [List.length_nil] at c0
                            clear hHF
                            unfold tokC
                            go_wp2_with fail
                            refine ⟨rfl, _, results_none rfl _ _ _, ?_⟩
                            rw [← HRS.out]
                            have h := HFL.out
                            exact ⟨rfl, _, _, h.box, h.steps, h.chg, by have := h.few; have := h.len; show S.length ≤ 40; omega⟩
                          | cons t13 r13 =>
                            rw [if_neg (by simp)] at HRS
                            simp only [List.length_cons] at c0
                            have hpos : (0 : Int) < ((r13.length + 1 : Nat) : Int) := by omega
                            generalize r13.length + 1 = rl at *
                            unfold tokC
                            go_wp2_with fail
                            refine (hHF.out).mono ?_
                            rintro e w13 ⟨rfl, rfl⟩
                            refine ⟨rfl, ?_⟩
                            rw [← HRS.out]
                            exact ⟨rfl, HFL.out.chg⟩
                  · rw [tailF_name HFB.out (.inr (by rw [HLAST.out]; intro q; apply hox; have q2 := congrArg (fun b : ByteArray => b.data.toList) (Option.some.inj q); simpa using q2))] at HRS
                    have hHF := hid (fun (w' : World) (hB : Below w7.heap.size w7 w') => fail_is pb 7 _ _ w' (HFL.out.box.below hB) hlr rfl)
                    have hob : (t2.t == xl) = false := beq_eq_false_iff_ne.2 hox
                    have hob2 : ¬ t2.t = xl := hox
                    unfold pT at hHF
                    clear HMK HSM
                    go_wp2_with fail
                    refine wp_region_quiet_below (by kernel_rfl) (by kernel_rfl) ?_
                    repeat (first | go_big_quiet_step (fail) | quiet_step (fail))
                    refine wpQuiet_nil ?_
                    intro _ hw'
                    obtain ⟨⟨dq, osq⟩, hw''⟩ := hw'
                    subst hw''
                    have hB8 := below_regrown w7 dq osq
                    clear k2 kx
                    go_wp2_with fail
                    refine (hHF.out _ hB8).mono ?_
                    rintro e w9 ⟨rfl, rfl⟩
                    refine ⟨rfl, ?_⟩
                    rw [← HRS.out]
                    exact ⟨rfl, HFL.out.chg.trans (Chg.ofBelow hB8)⟩
            | false =>
              obtain ⟨fb, hfb⟩ : ∃ fb, freeB ts = fb := ⟨_, rfl⟩
              cases fb with
              | false =>
                rw [loopF_bad HBO.out hfb] at HRS
                have hfa := hid (free_no pb _ ts wr hFL.box hl hfb rfl)
                unfold pT at hfa
                go_wp2_with fail
                refine (hfa.out).mono ?_
                rintro e w7 ⟨rfl, hB7⟩
                refine ⟨rfl, ?_⟩
                rw [← HRS.out]
                exact ⟨rfl, hFL.chg.trans (Chg.ofBelow hB7)⟩
              | true =>
                obtain ⟨t, r, rfl⟩ : ∃ t r, ts = t :: r := by
                  cases ts with
                  | nil => cases hfb
                  | cons t r => exact ⟨t, r, rfl⟩
                have hfa := hid (free_is hFL.box hl hfb)
                unfold pT at hfa
                go_wp2_with fail
                refine (hfa.out).mono ?_
                rintro e w7 ⟨rfl, hB7⟩
                replace hFL := hFL.below hB7
                have HFB := hid hfb
                clear hfa hB7 hfb
                obtain ⟨no, nc, so, sc, hnv, hsN, hsv, hsS, hn1, hn2, hlen, h1000⟩ := hFL.ns
                have hfew := hFL.few
                simp only at hnv hsv
                obtain ⟨ao, cap, hbx⟩ := hFL.box.blk
                have c2 := hbx.cell 2
                simp only [List.getElem?_cons_zero, List.getElem?_cons_succ, hnv] at c2
                obtain ⟨cb, hcb⟩ : ∃ cb, Lib.containsS N ⟨t.t.toArray⟩ = cb := ⟨_, rfl⟩
                have hcl := hid (rcont_is (cap := nc) hsN (by omega) hcb)
                have HFL := hid hFL
                have HCB := hid hcb
                clear hbx hnv hsv hsN hsS hn1 hn2 hFL hcb
                obtain ⟨nl, hnl⟩ : ∃ nl, N.length = nl := ⟨_, rfl⟩
                rw [hnl] at c2 hcl
                have HNL := hid hnl
                clear hnl hlen
                go_wp2_with fail
                refine (hcl.out).mono ?_
                clear hcl
                rintro e w8 ⟨_, rfl, rfl, rfl⟩
                cases cb with
                | true =>
                  rw [loopF_twice HBO.out HFB.out HCB.out] at HRS
                  have hfa := hid (fail_is pb 8 _ _ w8 HFL.out.box hl rfl)
                  unfold pT at hfa
                  go_wp2_with fail
                  refine (hfa.out).mono ?_
                  rintro e w9 ⟨rfl, rfl⟩
                  refine ⟨rfl, ?_⟩
                  rw [← HRS.out]
                  exact ⟨rfl, HFL.out.chg⟩
                | false =>
                  by_cases h40 : nl = 40
                  · rw [loopF_limit HBO.out HFB.out HCB.out (by rw [HNL.out]; exact h40)] at HRS
                    have hfa := hid (fail_is pb 2 _ _ w8 HFL.out.box hl rfl)
                    have h40I : (nl : Int) = 40 := by omega
                    unfold pT at hfa
                    subst h40
                    go_wp2_with fail
                    refine (hfa.out).mono ?_
                    rintro e w9 ⟨rfl, rfl⟩
                    refine ⟨rfl, ?_⟩
                    rw [← HRS.out]
                    exact ⟨rfl, HFL.out.chg⟩
                  · rw [loopF_go HBO.out HFB.out HCB.out (by rw [HNL.out]; exact h40)] at HRS
                    have h40I : ¬ (nl : Int) = 40 := by omega
                    have hta := hid (take_any pb _ t r w8 HFL.out.box)
                    unfold pT at hta
                    go_wp2_with fail
                    refine (hta.out).mono ?_
                    rintro e w9 ⟨rfl, hP9, hC9⟩
                    replace HFL := hid (HFL.out.take hP9 hC9)
                    clear hta hP9 hC9 c2 h40I
                    have hl9 : r.length ≤ 1000000 := by simp at hl; omega
                    have hg9 : r.length < g := by simp at hg; omega
                    obtain ⟨q1, hq1⟩ : ∃ q1, mustF en 4 [61] r = q1 := ⟨_, rfl⟩
                    have hcl := hid (must_any pb 4 [61] _ r w9 HFL.out.box hl9)
                    simp only at hcl
                    rw [hq1] at HRS hcl
                    unfold pT at hcl
                    unfold tokC
                    go_wp2_with fail
                    refine (hcl.out).mono ?_
                    clear hcl
                    cases q1 with
                    | bad x n =>
                      rintro e w10 ⟨rfl, hC10⟩
                      refine ⟨rfl, ?_⟩
                      rw [← HRS.out]
                      exact ⟨rfl, HFL.out.chg.trans hC10⟩
                    | ok t10 r10 =>
                      rintro e w10 ⟨rfl, hP10, hC10⟩
                      rw [PR.bind_ok] at HRS
                      replace HFL := hid (HFL.out.take hP10 hC10)
                      have hl10 : r10.length ≤ 1000000 ∧ r10.length < g := by have := mustF_len hq1; omega
                      clear hq1 hP10 hC10
                      obtain ⟨q2, hq2⟩ : ∃ q2, stepF en N S r10 = q2 := ⟨_, rfl⟩
                      have hcl := hid (step_any pb _ r10 N S w10 HFL.out.box hl10.1 HFL.out.ns)
                      simp only at hcl
                      rw [hq2] at HRS hcl
                      unfold pT at hcl
                      unfold tokC
                      go_wp2_with fail
                      refine (hcl.out).mono ?_
                      clear hcl
                      cases q2 with
                      | bad x n =>
                        rintro e w11 ⟨rfl, hC11⟩
                        refine ⟨rfl, ?_⟩
                        rw [← HRS.out]
                        exact ⟨rfl, HFL.out.chg.trans hC11⟩
                      | ok s r11 =>
                        rintro e w11 ⟨rfl, hP11, hC11⟩
                        rw [PR.bind_ok] at HRS
                        replace HFL := hid (HFL.out.take hP11 hC11)
                        have hl11 : r11.length ≤ 1000000 ∧ r11.length < g := by have := stepF_len hq2; omega
                        clear hq2 hP11 hC11 hl10
                        obtain ⟨so, sa, sb, sn⟩ := s
                        simp only [Stp.v, Stp.cells]
                        have hbs := Blk.new w11 #[.int .i64 so, .int .i64 sa, .int .i64 sb, .int .i64 sn] 32
                        have hFL := HFL.out.below (below_alloc w11 (.cells #[.int .i64 so, .int .i64 sa, .int .i64 sb, .int .i64 sn] 32))
                        have hbl : pb < w11.heap.size := HFL.out.box.lt
                        obtain ⟨W, hW⟩ : ∃ W, W = (w11.alloc (.cells #[.int .i64 so, .int .i64 sa, .int .i64 sb, .int .i64 sn] 32)) := ⟨_, rfl⟩
                        rw [← hW] at hbs hFL
                        obtain ⟨q3, hq3⟩ : ∃ q3, mustF en 4 [59] r11 = q3 := ⟨_, rfl⟩
                        have hcl := hid (must_any pb 4 [59] _ r11 W hFL.box hl11.1)
                        simp only at hcl
                        rw [hq3] at HRS hcl
                        rw [hW] at hcl
                        have hsn1 := hid (fun k (hk : sv.ownBlock = some k) => (by have := (HFL.out.steps.lt k hk).2; omega : k ≠ w11.heap.size))
                        replace HFL := hid (And.intro hFL (And.intro hbs hbl))
                        have HW := hid hW
                        clear hFL hbs hW hbl
                        unfold pT at hcl
                        go_wp2_with fail
                        refine (hcl.out).mono ?_
                        clear hcl
                        rw [← HW.out]
                        obtain ⟨hFL, hbs, hbl⟩ := HFL.out
                        clear HFL HW
                        generalize w11.heap.size = bs at *
                        cases q3 with
                        | bad x n =>
                          rintro e w12 ⟨rfl, hC12⟩
                          refine ⟨rfl, ?_⟩
                          rw [← HRS.out]
                          exact ⟨rfl, hFL.chg.trans hC12⟩
                        | ok t12 r12 =>
                          rintro e w12 ⟨rfl, hP12, hC12⟩
                          rw [PR.bind_ok] at HRS
                          replace hFL := hFL.take hP12 hC12
                          replace hbs := hbs.chg hC12 (by omega)
                          have hl12 : r12.length ≤ 1000000 ∧ r12.length < g := by have := mustF_len hq3; omega
                          clear hq3 hP12 hC12 hl11
                          have hns : S.length ≤ 39 := by have := hFL.few; have := hFL.len; have := HNL.out; omega
                          have hnf : N.length ≤ 39 := by have := hFL.few; have := HNL.out; omega
                          have hlen := hFL.len
                          have hM : M14 w w12 pb bs ⟨en, nv, nm, v, sv⟩ r12 ⟨so, sa, sb, sn⟩ nv N sv S :=
                            ⟨hFL.box, hbs, hFL.names, hFL.steps, hFL.chg, hpl, by omega, by omega⟩
                          replace hlen := hid hlen
                          have hheld := hid hM.drew.held
                          have HM := hid hM.drew
                          clear hM hFL hbs
                          simp only [S14] at hheld
                          unfold tokC
                          go_wp2_with fail
                          refine wp_region_mix (S14 pb bs nv sv ⟨so, sa, sb, sn⟩) 17 [0, 1, 2, 3, 4, 5, 10, 11, 12, 14] [6, 7, 13] (by kernel_rfl) (by kernel_rfl) (fun d _ _ _ _ h => by cases d <;> exact h) hheld.out ?_
                          simp only [List.filterMap_cons, List.filterMap_nil, List.getElem?_cons_zero, List.getElem?_cons_succ]
                          haveI hne1 : Nonempty (CW (fun _ => True)) := ⟨⟨w12, trivial⟩⟩
                          haveI hne2 : Nonempty (CW (S14 pb bs nv sv ⟨so, sa, sb, sn⟩)) := ⟨⟨w12.drew, hheld.out⟩⟩
                          have k5 : ∀ q : CW (S14 pb bs nv sv ⟨so, sa, sb, sn⟩), q.w.cell? ⟨pb, 5, none⟩ = some sv := fun q => q.ok.1
                          have k2 : ∀ q : CW (S14 pb bs nv sv ⟨so, sa, sb, sn⟩), q.w.cell? ⟨pb, 2, none⟩ = some nv := fun q => q.ok.2.1
                          have k60 : ∀ q : CW (S14 pb bs nv sv ⟨so, sa, sb, sn⟩), q.w.cell? ⟨bs, 0, none⟩ = some (.int .i64 so) := fun q => q.ok.2.2.1
                          have k61 : ∀ q : CW (S14 pb bs nv sv ⟨so, sa, sb, sn⟩), q.w.cell? ⟨bs, 1, none⟩ = some (.int .i64 sa) := fun q => q.ok.2.2.2.1
                          have k62 : ∀ q : CW (S14 pb bs nv sv ⟨so, sa, sb, sn⟩), q.w.cell? ⟨bs, 2, none⟩ = some (.int .i64 sb) := fun q => q.ok.2.2.2.2.1
                          have k63 : ∀ q : CW (S14 pb bs nv sv ⟨so, sa, sb, sn⟩), q.w.cell? ⟨bs, 3, none⟩ = some (.int .i64 sn) := fun q => q.ok.2.2.2.2.2
                          iterate 10 (refine wpStC_step (fun K hK => ?_); go_simp; refine hK _ ?_; clear hK K)
                          refine wpStC_nil ?_
                          iterate 3 (refine wpStC_step (fun K hK => ?_); go_simp; refine hK _ ?_; clear hK K)
                          refine wpStC_nil ?_
                          clear k5 k2 k60 k61 k62 k63 hne1 hne2 hheld
                          have hMd := HM.out
                          clear HM
                          have hM8 := hMd.alloc (.cells #[.int .i64 so, .int .i64 sa, .int .i64 sb, .int .i64 sn] 32)
                          have hM15 := hMd.alloc (.cells #[.string ⟨t.t.toArray⟩] 9)
                          have hb8 : Blk (w12.drew.alloc (.cells #[.int .i64 so, .int .i64 sa, .int .i64 sb, .int .i64 sn] 32)) w12.drew.heap.size 32 (Stp.cells ⟨so, sa, sb, sn⟩) := Blk.new _ _ _
                          have hb15 : Blk (w12.drew.alloc (.cells #[.string ⟨t.t.toArray⟩] 9)) w12.drew.heap.size 9 [.string ⟨t.t.toArray⟩] := Blk.new _ _ _
                          generalize w12.drew = wd at *
                          refine wpMix_all (rs := [8, 15]) (by kernel_rfl) (by simp) ?_
                          intro i hi
                          simp only [List.mem_cons, List.not_mem_nil, or_false] at hi
                          rcases hi with rfl | rfl
                          · refine ⟨by decide, wpOp_val (by rfl) (by rfl) (v := .slice (some ⟨wd.heap.size, 0, none⟩) 1 1) (w' := wd.alloc (.cells #[.int .i64 so, .int .i64 sa, .int .i64 sb, .int .i64 sn] 32)) (by kernel_rfl) ⟨hM8.held, ?_⟩⟩
                            simp only [Act.put, List.setIfInBounds_toArray]
                            clear hM15 hb15
                            generalize wd.alloc (.cells #[.int .i64 so, .int .i64 sa, .int .i64 sb, .int .i64 sn] 32) = u1 at *
                            generalize wd.heap.size = e8 at *
                            refine wpMix_all (rs := [9, 15]) (by kernel_rfl) (by simp) ?_
                            intro i hi
                            simp only [List.mem_cons, List.not_mem_nil, or_false] at hi
                            rcases hi with rfl | rfl
                            · refine ⟨by decide, app_steps (by rfl) (by rfl) (.tmp 57) (.tmp 59) (by rfl) (by rfl) (by rfl) hM8 hb8 (by omega) hsn1.out ?_⟩
                              intro ao1 c1 u2 hM2 hT2
                              refine ⟨hM2.held, ?_⟩
                              simp only [Act.put]
                              clear hM8 hb8 hT2
                              have hM3 := hM2.alloc (.cells #[.string ⟨t.t.toArray⟩] 9)
                              have hb3 : Blk (u2.alloc (.cells #[.string ⟨t.t.toArray⟩] 9)) u2.heap.size 9 [.string ⟨t.t.toArray⟩] := Blk.new _ _ _
                              refine wpMix_all (rs := [15]) (by kernel_rfl) (by simp) ?_
                              intro i hi
                              simp only [List.mem_cons, List.not_mem_nil, or_false] at hi
                              subst hi
                              refine ⟨by decide, wpOp_val (by rfl) (by rfl) (v := .slice (some ⟨u2.heap.size, 0, none⟩) 1 1) (w' := u2.alloc (.cells #[.string ⟨t.t.toArray⟩] 9)) (by kernel_rfl) ⟨hM3.held, ?_⟩⟩
                              simp only [Act.put]
                              generalize u2.alloc (.cells #[.string ⟨t.t.toArray⟩] 9) = u3 at *
                              generalize u2.heap.size = e3 at *
                              refine wpMix_all (rs := [16]) (by kernel_rfl) (by simp) ?_
                              intro i hi
                              simp only [List.mem_cons, List.not_mem_nil, or_false] at hi
                              subst hi
                              refine ⟨by decide, app_names (by rfl) (by rfl) (.tmp 64) (.tmp 66) (by rfl) (by rfl) (by rfl) hM3 hb3 (by omega) ?_⟩
                              intro ao2 c2 u4 hM4 _
                              refine ⟨hM4.held, ?_⟩
                              simp only [Act.put]
                              clear hM2 hM3 hb3
                              refine ⟨by kernel_rfl, ?_⟩
                              simp only [List.drop_succ_cons, List.drop_zero]
                              obtain ⟨ao, cap, hbx⟩ := hM4.box.blk
                              have c5 := hbx.cell 5
                              have c2' := hbx.cell 2
                              have g5 := hbx.free 5
                              have g2 := hbx.free 2
                              simp only [List.getElem?_cons_zero, List.getElem?_cons_succ] at c5 c2'
                              have HM4 := hid hM4
                              clear hbx hM4
                              go_wp2_with fail
                              go_roundg g
                              case measure => omega
                              case rel => exact ⟨_, _, _, _, r12, HM4.out.fin (by simp [hlen.out]) (by simp; omega), hl12.1, hl12.2, HRS⟩
                            · have hM9 := hM8.alloc (.cells #[.string ⟨t.t.toArray⟩] 9)
                              have hb9 : Blk (u1.alloc (.cells #[.string ⟨t.t.toArray⟩] 9)) u1.heap.size 9 [.string ⟨t.t.toArray⟩] := Blk.new _ _ _
                              have hb8' := hb8.alloc (.cells #[.string ⟨t.t.toArray⟩] 9)
                              refine ⟨by decide, wpOp_val (by rfl) (by rfl) (v := .slice (some ⟨u1.heap.size, 0, none⟩) 1 1) (w' := u1.alloc (.cells #[.string ⟨t.t.toArray⟩] 9)) (by kernel_rfl) ⟨hM9.held, ?_⟩⟩
                              simp only [Act.put]
                              generalize u1.alloc (.cells #[.string ⟨t.t.toArray⟩] 9) = u2 at *
                              generalize u1.heap.size = e9 at *
                              refine wpMix_all (rs := [9]) (by kernel_rfl) (by simp) ?_
                              intro i hi
                              simp only [List.mem_cons, List.not_mem_nil, or_false] at hi
                              subst hi
                              refine ⟨by decide, app_steps (by rfl) (by rfl) (.tmp 57) (.tmp 59) (by rfl) (by rfl) (by rfl) hM9 hb8' (by omega) hsn1.out ?_⟩
                              intro ao1 c1 u3 hM3 hT3
                              have hb3 := hT3 _ _ _ (by decide) hb9
                              refine ⟨hM3.held, ?_⟩
                              simp only [Act.put]
                              clear hM8 hb8 hb8' hM9 hb9 hT3
                              refine wpMix_all (rs := [16]) (by kernel_rfl) (by simp) ?_
                              intro i hi
                              simp only [List.mem_cons, List.not_mem_nil, or_false] at hi
                              subst hi
                              refine ⟨by decide, app_names (by rfl) (by rfl) (.tmp 64) (.tmp 66) (by rfl) (by rfl) (by rfl) hM3 hb3 (by omega) ?_⟩
                              intro ao2 c2 u4 hM4 _
                              refine ⟨hM4.held, ?_⟩
                              simp only [Act.put]
                              clear hM3 hb3
                              refine ⟨by kernel_rfl, ?_⟩
                              simp only [List.drop_succ_cons, List.drop_zero]
                              obtain ⟨ao, cap, hbx⟩ := hM4.box.blk
                              have c5 := hbx.cell 5
                              have c2' := hbx.cell 2
                              have g5 := hbx.free 5
                              have g2 := hbx.free 2
                              simp only [List.getElem?_cons_zero, List.getElem?_cons_succ] at c5 c2'
                              have HM4 := hid hM4
                              clear hbx hM4
                              go_wp2_with fail
                              go_roundg g
                              case measure => omega
                              case rel => exact ⟨_, _, _, _, r12, HM4.out.fin (by simp [hlen.out]) (by simp; omega), hl12.1, hl12.2, HRS⟩
                          · have hM9 := hM15.alloc (.cells #[.int .i64 so, .int .i64 sa, .int .i64 sb, .int .i64 sn] 32)
                            have hb9 : Blk ((wd.alloc (.cells #[.string ⟨t.t.toArray⟩] 9)).alloc (.cells #[.int .i64 so, .int .i64 sa, .int .i64 sb, .int .i64 sn] 32)) (wd.alloc (.cells #[.string ⟨t.t.toArray⟩] 9)).heap.size 32 (Stp.cells ⟨so, sa, sb, sn⟩) := Blk.new _ _ _
                            have hb15' := hb15.alloc (.cells #[.int .i64 so, .int .i64 sa, .int .i64 sb, .int .i64 sn] 32)
                            refine ⟨by decide, wpOp_val (by rfl) (by rfl) (v := .slice (some ⟨wd.heap.size, 0, none⟩) 1 1) (w' := wd.alloc (.cells #[.string ⟨t.t.toArray⟩] 9)) (by kernel_rfl) ⟨hM15.held, ?_⟩⟩
                            simp only [Act.put, List.setIfInBounds_toArray]
                            clear hM8 hb8 hb15
                            generalize wd.heap.size = e8 at *
                            generalize wd.alloc (.cells #[.string ⟨t.t.toArray⟩] 9) = u1 at *
                            refine wpMix_all (rs := [8]) (by kernel_rfl) (by simp) ?_
                            intro i hi
                            simp only [List.mem_cons, List.not_mem_nil, or_false] at hi
                            subst hi
                            refine ⟨by decide, wpOp_val (by rfl) (by rfl) (v := .slice (some ⟨u1.heap.size, 0, none⟩) 1 1) (w' := u1.alloc (.cells #[.int .i64 so, .int .i64 sa, .int .i64 sb, .int .i64 sn] 32)) (by kernel_rfl) ⟨hM9.held, ?_⟩⟩
                            simp only [Act.put]
                            generalize u1.alloc (.cells #[.int .i64 so, .int .i64 sa, .int .i64 sb, .int .i64 sn] 32) = u2 at *
                            generalize u1.heap.size = e9 at *
                            refine wpMix_all (rs := [9]) (by kernel_rfl) (by simp) ?_
                            intro i hi
                            simp only [List.mem_cons, List.not_mem_nil, or_false] at hi
                            subst hi
                            refine ⟨by decide, app_steps (by rfl) (by rfl) (.tmp 57) (.tmp 59) (by rfl) (by rfl) (by rfl) hM9 hb9 (by omega) hsn1.out ?_⟩
                            intro ao1 c1 u3 hM3 hT3
                            have hb3 := hT3 _ _ _ (by decide) hb15'
                            refine ⟨hM3.held, ?_⟩
                            simp only [Act.put]
                            clear hM15 hb9 hb15' hM9 hT3
                            refine wpMix_all (rs := [16]) (by kernel_rfl) (by simp) ?_
                            intro i hi
                            simp only [List.mem_cons, List.not_mem_nil, or_false] at hi
                            subst hi
                            refine ⟨by decide, app_names (by rfl) (by rfl) (.tmp 64) (.tmp 66) (by rfl) (by rfl) (by rfl) hM3 hb3 (by omega) ?_⟩
                            intro ao2 c2 u4 hM4 _
                            refine ⟨hM4.held, ?_⟩
                            simp only [Act.put]
                            clear hM3 hb3
                            refine ⟨by kernel_rfl, ?_⟩
                            simp only [List.drop_succ_cons, List.drop_zero]
                            obtain ⟨ao, cap, hbx⟩ := hM4.box.blk
                            have c5 := hbx.cell 5
                            have c2' := hbx.cell 2
                            have g5 := hbx.free 5
                            have g2 := hbx.free 2
                            simp only [List.getElem?_cons_zero, List.getElem?_cons_succ] at c5 c2'
                            have HM4 := hid hM4
                            clear hbx hM4
                            go_wp2_with fail
                            go_roundg g
                            case measure => omega
                            case rel => exact ⟨_, _, _, _, r12, HM4.out.fin (by simp [hlen.out]) (by simp; omega), hl12.1, hl12.2, HRS⟩
end Go.Proofs.YtogcnmjipfllaaaDoor
