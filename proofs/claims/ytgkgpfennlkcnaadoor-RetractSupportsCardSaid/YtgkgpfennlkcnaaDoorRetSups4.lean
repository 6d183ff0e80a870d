/- RetractSupports: the walk -/
import Derived.Test.YtgkgpfennlkcnaaDoorRetSupsL
namespace Go.Proofs.YtgkgpfennlkcnaaDoor
open Go.RowKit

set_option maxHeartbeats 4000000 in
set_option maxRecDepth 100000 in
theorem sups_walk (ao ro : Option Addr) (cap rc : Nat) (L : List Ent) (R : List ByteArray) (w : World) (hE : L.length ≤ 1000 → Ents w ao L) (hlm : L.length ≤ maxLen) (hR : SlV w ro (strsV R)) :
    Calls Tryd.prog 3 #[.slice ao L.length cap, .slice ro R.length rc] w fun e w' => e = .returned (.bool true) ∧ Below w.heap.size w w' := by
  cases h1 : fewR L R with
  | false =>
    go_enter Tryd.func3, Tryd.ntmps3
    go_wp2_with fail
    refine (head_any w).mono ?_
    rintro e w1 ⟨rfl, hB⟩
    go_wp2_with fail
    refine (few_any _ _ _ _ L R w1 (fun h => (hE h).below hB) hlm (hR.below hB)).mono ?_
    rintro e w2 ⟨rfl, rfl⟩
    rw [h1]
    go_wp2_with fail
    go_ret
    exact ⟨rfl, hB⟩
  | true =>
    obtain ⟨hS, hl12⟩ := few_small (few_cut h1)
    have hrl := few_most h1
    have hfew : ∀ w1, Below w.heap.size w w1 → Calls Tryd.prog 9 #[.slice ao L.length cap, .slice ro R.length rc] w1 fun e w' => e = .returned (.bool true) ∧ w1 = w' := by
      intro w1 hB
      have := few_any ao ro cap rc L R w1 (fun h => (hE h).below hB) hlm (hR.below hB)
      rw [h1] at this
      exact this
    have hcs := hid (fun (e : Ent) (he : e ∈ L) => few_cs (few_cut h1) he)
    replace hE := hE (by omega)
    have HSM := hid hS
    have HS1 := hid (fun (w : World) (hj : judB L R = true) (h : Ents w ao L) (hr : SlV w ro (strsV R)) => supp_full hj HSM.out (cap := cap) (rc := rc) h hr)
    have HS0 := hid (fun (w : World) (hj : judB L R = false) (h : Ents w ao L) (hr : SlV w ro (strsV R)) => supp_none hj HSM.out (cap := cap) (rc := rc) h hr (by omega))
    clear h1 hS
    generalize hln : L.length = n at *
    have HLN := hid hln
    clear hln
    go_enter Tryd.func3, Tryd.ntmps3
    go_wp2_with fail
    refine (head_any w).mono ?_
    rintro e w1 ⟨rfl, hB⟩
    go_wp2_with fail
    refine (hfew w1 hB).mono ?_
    rintro e w2 ⟨rfl, rfl⟩
    clear hfew
    replace hE := hE.below hB
    replace hR := hR.below hB
    go_wp2_with fail
    cases hj : judB L R with
    | false =>
      refine (HS0.out _ hj hE hR).mono ?_
      rintro e w2 ⟨bo, cb, rfl, hB1⟩
      go_wp2_with fail
      go_ret
      exact ⟨rfl, bthen hB hB1⟩
    | true =>
      refine (HS1.out _ hj hE hR).mono ?_
      rintro e w2 ⟨sb, rfl, hs, hB1⟩
      replace hE := hE.below hB1
      replace hR := hR.below hB1
      replace hB := bthen hB hB1
      clear hB1
      obtain ⟨A, hA⟩ : ∃ A, w2.heap.size = A := ⟨_, rfl⟩
      go_wp2_with fail
      go_loopw [8, 9] (fun s8 s9 wr => ∃ (i k : Nat) (B : List Ent), s9 = .int .i64 i ∧ i ≤ n ∧ k ≤ i ∧ LeftR L R wr A i k s8 B ∧ Below A w2 wr ∧ A ≤ wr.heap.size) (fun _ s9 _ => n - (intOf s9).toNat)
      case atStart => exact ⟨0, 0, [], rfl, by omega, by omega, LeftR.start L R w2 A, Below.refl _ _, by omega⟩
      case round =>
        obtain ⟨i, k, B, rfl, hi, hki, hlr, hBw, hAs⟩ := hrel
        obtain ⟨wo, hwo⟩ : ∃ x, x = wr := ⟨_, rfl⟩
        subst hwo
        by_cases hin : i < n
        · have hEo : Ents wo ao L := hE.below (by rw [hA]; exact hBw)
          have hso := hs.below (by rw [hA]; exact hBw)
          have hRo := hR.below (by rw [hA]; exact hBw)
          obtain ⟨e, he⟩ : ∃ x, L[i]? = some x := ⟨_, List.getElem?_eq_getElem (by rw [HLN.out]; exact hin)⟩
          obtain ⟨b0, o0, ea, hb0, a0, a1⟩ := hEo.at he
          subst ea
          have hiI : (i : Int) < (n : Int) := by omega
          have HE := hid he
          have hcl := hcs.out e (List.mem_of_getElem? he)
          have hce := hEo.cs e (List.mem_of_getElem? he)
          clear he
          have hb : ((e.cs.length : Int) == 0) = e.cs.isEmpty := by
            cases e.cs with
            | nil => rfl
            | cons _ _ => simp; omega
          go_wp2_with fail
          go_loopw [10, 11] (fun s10 s11 wr => ∃ t : Nat, s11 = .int .i64 t ∧ t ≤ n ∧ s10 = .bool (e.cs.isEmpty || anyC L R e.cs t) ∧ Below wo.heap.size wo wr) (fun _ s11 _ => n - (intOf s11).toNat)
          case atStart => exact ⟨0, rfl, by omega, by simp [anyC, hb], Below.refl _ _⟩
          case round =>
            obtain ⟨t, rfl, ht, rfl, hB2⟩ := hrel
            by_cases htn : t < n
            · obtain ⟨d, hd⟩ : ∃ x, L[t]? = some x := ⟨_, List.getElem?_eq_getElem (by rw [HLN.out]; exact htn)⟩
              obtain ⟨b2, o2, e2, hb2, c0, -⟩ := (hEo.below hB2).at hd
              cases e2
              have a1r := (hB2.cell (p := ⟨b0, o0 + i * 2 + 1, none⟩) hb0).trans a1
              obtain ⟨b3, o3, e3, _, c3⟩ := (hso.below hB2).cell t (.bool (supB L R d.id)) (by unfold bools; rw [List.getElem?_map, supL_get hd]; rfl)
              cases e3
              have hst := anyC_step (R := R) (cs := e.cs) hd
              have htI : (t : Int) < (n : Int) := by omega
              have hcin : Calls Tryd.prog 11 #[.slice e.ao e.cs.length e.cap, .string d.id] wr.drew fun e' w'' => e' = .returned (.bool (decide (d.id ∈ e.cs))) ∧ w'' = wr.drew := by
                have hce2 := hce.below hB2
                exact turned (in_any e.ao e.cap e.cs d.id wr.drew ⟨hce2.len, hce2.cell⟩ (by omega))
              have HCI := hid hcin
              obtain ⟨u, hu⟩ : ∃ u, (e.cs.isEmpty || anyC L R e.cs t) = u := ⟨_, rfl⟩
              obtain ⟨v, hv⟩ : ∃ v, supB L R d.id = v := ⟨_, rfl⟩
              have HN1 := hid (show (e.cs.isEmpty || anyC L R e.cs (t + 1)) = (u || (v && decide (d.id ∈ e.cs))) by rw [hst, ← Bool.or_assoc, hu, hv])
              rw [hu]
              rw [hv, Nat.zero_add] at c3
              clear hcin hst hu hv hd
              generalize decide (d.id ∈ e.cs) = y at *
              cases u <;> cases v
              all_goals
                go_wp2_with fail
                refine wp_region_quiet_all (by kernel_rfl) (by kernel_rfl) ?_
                repeat (go_big_quiet_step (exact HCI.out _))
                refine wpQuiet_end ?_
                go_wp2_with fail
                go_roundw
                case rel => exact ⟨t + 1, by go_num, by omega, by rw [HN1.out]; rfl, hB2.drew⟩
                case measure => first | (simp [intOf]; omega) | simp [intOf]
            · obtain rfl : t = n := by omega
              obtain ⟨b3, o3, e3, _, c3⟩ := (hso.below hB2).cell i (.bool (supB L R e.id)) (by unfold bools; rw [List.getElem?_map, supL_get HE.out]; rfl)
              cases e3
              have a0r := (hB2.cell (p := ⟨b0, o0 + i * 2, none⟩) hb0).trans a0
              have hvL : ValidL L := by
                unfold judB at hj
                rw [Bool.and_eq_true] at hj
                exact validB_iff.1 hj.1
              have hsi := sup_is (R := R) hvL HE.out
              rw [HLN.out] at hsi
              have hcin : Calls Tryd.prog 11 #[.slice ro R.length rc, .string e.id] wr.drew fun e' w'' => e' = .returned (.bool (decide (e.id ∈ R))) ∧ w'' = wr.drew := by
                have hr2 := hRo.below hB2
                exact turned (in_any ro rc R e.id wr.drew ⟨hr2.len, hr2.cell⟩ (by omega))
              have HCI := hid hcin
              rw [hsi, Nat.zero_add] at c3
              obtain ⟨u, hu⟩ : ∃ u, (e.cs.isEmpty || anyC L R e.cs t) = u := ⟨_, rfl⟩
              obtain ⟨y, hy⟩ : ∃ y, decide (e.id ∈ R) = y := ⟨_, rfl⟩
              rw [hy] at HCI
              rw [hu]
              rw [hu, hy] at c3
              have HY := hid hy
              clear hcin hsi hu hy
              cases y
              · have hb2d := hB2.drew
                cases u
                all_goals
                  go_wp2_with fail
                  refine wp_region_quiet_all (by kernel_rfl) (by kernel_rfl) ?_
                  repeat (go_big_quiet_step (exact HCI.out _))
                  refine wpQuiet_end ?_
                  have hr3 := hRo.below hB2.drew
                  have hq3 := in_any ro rc R e.id wr.drew hr3 (by omega)
                  rw [HY.out] at hq3
                  go_wp2_with fail
                  refine hq3.mono ?_
                  rintro e' w' ⟨rfl, rfl⟩
                  clear hq3 hr3 HCI c3 a0r a0 a1 hb0
                  generalize wr.drew = wq at *
                  have hEq := hEo.below hb2d
                  have hRq : SlV wq ro (strsV R) := hRo.below hb2d
                  obtain ⟨b1, o1, e1, hb1, a0, a1⟩ := hEq.at HE.out
                  have hcq := hEq.cs e (List.mem_of_getElem? HE.out)
                  have hcc := hEq.hcap e (List.mem_of_getElem? HE.out)
                  cases e1
                  obtain ⟨eid, eao, ecs, ecap⟩ := e
                  simp only at a0 a1 hcq hcl hcc HY
                  generalize hcn : ecs.length = cl at *
                  have HCN := hid hcn
                  clear hcn
                  go_wp2_with fail
                  obtain ⟨xb, hxb⟩ : ∃ xb, wq.heap.size = xb := ⟨_, rfl⟩
                  have hx0 : Blk (wq.alloc (.cells #[.string eid, .slice none 0 0] 31)) xb 31 [.string eid, .slice none 0 0] := by rw [← hxb]; exact Blk.new _ _ _
                  have hB0 : Below xb wq (wq.alloc (.cells #[.string eid, .slice none 0 0] 31)) := by rw [← hxb]; exact below_alloc _ _
                  have hz0 : (wq.alloc (.cells #[.string eid, .slice none 0 0] 31)).heap.size = xb + 1 := by rw [← hxb]; exact World.size_alloc _ _
                  rw [hxb]
                  generalize wq.alloc (.cells #[.string eid, .slice none 0 0] 31) = wx at *
                  go_loopw [13] (fun s13 wi => ∃ (j n1 : Nat) (v : Value) (xs : List Value), s13 = .int .i64 j ∧ j ≤ cl ∧ Blk wi xb 31 [.string eid, v] ∧ wi.ownsRow (xb + 1) 9 1 v n1 xs ∧ Hid (xs = strsV (keepC R (ecs.take j))) ∧ Hid (xs.length = n1) ∧ n1 ≤ j ∧ Below xb wq wi ∧ xb + 1 ≤ wi.heap.size) (fun s13 _ => cl - (intOf s13).toNat)
                  case atStart => exact ⟨0, 0, .slice none 0 0, [], rfl, by omega, hx0, World.ownsRow_nil _ _ _ _, hid rfl, hid rfl, by omega, hB0, by omega⟩
                  case round =>
                    obtain ⟨j, n1, v, xs, rfl, hj, hx, how, HXS, HXL, hnj, hBi, hsz⟩ := hrel
                    have hBiq : Below wq.heap.size wq wr := by rw [hxb]; exact hBi
                    by_cases hjc : j < cl
                    · obtain ⟨c, hc⟩ : ∃ x, ecs[j]? = some x := ⟨_, List.getElem?_eq_getElem (by rw [HCN.out]; omega)⟩
                      have a1i := (hBiq.cell (p := ⟨b0, o0 + i * 2 + 1, none⟩) hb1).trans a1
                      obtain ⟨b2, o2, e2, hb2, d2⟩ := hcq.cell j (.string c) (by rw [List.getElem?_map, hc]; rfl)
                      subst e2
                      have d2i := (hBiq.cell (p := ⟨b2, o2 + j, none⟩) hb2).trans d2
                      have c1 : wr.cell? ⟨xb, 1, none⟩ = some v := hx.cell 1
                      have hxv : some xb ≠ v.ownBlock := fun u => by have := (how.lt xb u.symm).1; omega
                      have HC := hid hc
                      have hjI : (j : Int) < (cl : Int) := by omega
                      have hl1 : n1 + 1 ≤ maxLen := by unfold maxLen; omega
                      have hl2 : (n1 + 1) * 16 ≤ 140737488355328 := by omega
                      have hq4 := in_any ro rc R c wr (hRq.below hBiq) (by omega)
                      obtain ⟨y2, hy2⟩ : ∃ y, decide (c ∈ R) = y := ⟨_, rfl⟩
                      rw [hy2] at hq4
                      have HY2 := hid hy2
                      clear hc hy2
                      go_wp2_with fail
                      refine hq4.mono ?_
                      rintro e' w' ⟨rfl, rfl⟩
                      clear hq4
                      cases y2
                      · obtain ⟨i9, hi9, hz9, hs9, hb9⟩ := info_parts Tryd.inStr
                        have hw1 : ((wr.alloc (.cells #[.string c] 9)).drew).ownsRow (xb + 1) 9 1 v n1 xs := how.alloc _
                        have hnews : ∀ q u, [Value.string c][q]? = some u → ((wr.alloc (.cells #[.string c] 9)).drew).cell? ((⟨wr.heap.size, 0, none⟩ : Addr).add q) = some u := World.news_of_block (heap_alloc_new wr _)
                        have ho1 : ∀ u ∈ [Value.string c], u.oneCell' = true := by intro u hu; simp at hu; subst hu; rfl
                        have hbs : xb + 1 ≤ ((wr.alloc (.cells #[.string c] 9)).drew).heap.size := by show xb + 1 ≤ (wr.alloc _).heap.size; rw [World.size_alloc]; omega
                        have hsz1 : ((wr.alloc (.cells #[.string c] 9)).drew).heap.size = wr.heap.size + 1 := by show (wr.alloc _).heap.size = _; rw [World.size_alloc]
                        have hnX := World.new_ne wr _ c1
                        have c1a : (wr.alloc (.cells #[.string c] 9)).cell? ⟨xb, 1, none⟩ = some v := ((below_alloc wr _).cell (p := ⟨xb, 1, none⟩) hx.lt).trans c1
                        go_upto_region 26 with fail
                        go_region_law
                          (refine step_append_lies _ (by rfl) _ _ 23 (by rfl) (xb + 1) 9 i9 _ 1 16 Tryd.ulStrs hi9 hz9 hs9 hb9 (by decide) (by decide) v n1 xs (by rfl) hw1 ⟨wr.heap.size, 0, none⟩ 1 1 [.string c] (by rfl) rfl hnews ho1 (by decide) hl1 hl2 hbs (wr.heap.size + 1) hsz1 ?_; intro g6 cap6 w6 hown6 hgrow6 hat6 hlt6; have hX6 := ((hx.alloc (.cells #[.string c] 9)).drew).grown hgrow6 hxv; have f6 := hX6.free 1; have c6 : w6.cell? ⟨xb, 1, none⟩ = some v := hX6.cell 1)
                        all_goals
                          have hgw : wr.grownBy w6 v.ownBlock := (grownBy_drew (World.grownBy_alloc wr (.cells #[.string c] 9) v.ownBlock)).trans hgrow6
                          have hX7 : Blk (w6.setCell ⟨xb, 1, none⟩ (.slice (some ⟨g6, 0, none⟩) (n1 + 1) cap6)) xb 31 [.string eid, .slice (some ⟨g6, 0, none⟩) (n1 + 1) cap6] := hX6.set 1 (.slice (some ⟨g6, 0, none⟩) (n1 + 1) cap6)
                          have hcS : Chg (fun u => u = xb) w6 (w6.setCell ⟨xb, 1, none⟩ (.slice (some ⟨g6, 0, none⟩) (n1 + 1) cap6)) := (Chg.refl (fun u => u = xb) w6).set (p := ⟨xb, 1, none⟩) rfl _
                          have hown7 := ownsRow_chg hown6 hcS (fun u hu hux => by have := (hown6.lt u hu).1; omega)
                          have hB7 := (hBi.grown hgw (by omega) (fun u hu => by have := (how.lt u hu).1; omega)).setCell (p := ⟨xb, 1, none⟩) (Nat.le_refl _) (.slice (some ⟨g6, 0, none⟩) (n1 + 1) cap6)
                          have hz7 : xb + 1 ≤ (w6.setCell ⟨xb, 1, none⟩ (.slice (some ⟨g6, 0, none⟩) (n1 + 1) cap6)).heap.size := hX7.lt
                          have HL7 : Hid ((xs ++ [Value.string c]).length = n1 + 1) := hid (by simp [HXL.out])
                          have HX7 : Hid (xs ++ [Value.string c] = strsV (keepC R (ecs.take (j + 1)))) := by
                            unfold Hid
                            rw [keep_yes HC.out (of_decide_eq_false HY2.out), HXS.out]
                            simp [strsV]
                          clear hown6 hcS hX6 hgrow6 hgw c6 f6 hw1 hnews hbs hsz1 hnX c1a c1 a1i d2i how hBiq
                          go_wp2_with fail
                          go_roundw
                          case rel => exact ⟨j + 1, n1 + 1, _, xs ++ [.string c], by go_num, by omega, hX7, hown7, HX7, HL7, by omega, hB7, hz7⟩
                          case measure => first | (simp [intOf]; omega) | simp [intOf]
                      · go_wp2_with fail
                        go_roundw
                        case rel => exact ⟨j + 1, n1, v, xs, by go_num, by omega, hx, how, by rw [keep_no HC.out (of_decide_eq_true HY2.out)]; exact HXS, HXL, by omega, hBi, hsz⟩
                        case measure => first | (simp [intOf]; omega) | simp [intOf]
                    · obtain rfl : j = cl := by omega
                      obtain ⟨va, vc, hv, hc1, hc2, hsv, hva⟩ := own_caps how
                      rw [HXS.out, List.take_of_length_le (by rw [HCN.out]; exact Nat.le_refl _)] at hsv
                      subst hv
                      have c0 : wr.cell? ⟨xb, 0, none⟩ = some (.string eid) := hx.cell 0
                      have c1 : wr.cell? ⟨xb, 1, none⟩ = some (.slice va n1 vc) := hx.cell 1
                      have f1 := hx.free 1
                      have a1i := (hBiq.cell (p := ⟨b0, o0 + i * 2 + 1, none⟩) hb1).trans a1
                      have hkl : (keepC R ecs).length = n1 := by
                        have := HXL.out
                        rw [HXS.out, List.take_of_length_le (by rw [HCN.out]; exact Nat.le_refl _)] at this
                        unfold strsV at this
                        rwa [List.length_map] at this
                      have hsz0 : wo.heap.size ≤ xb := by rw [← hxb]; exact hb2d.size
                      have hBow : Below wo.heap.size wo wr := hb2d.trans (hBi.mono hsz0)
                      have hbo := ownsRow_chgN hlr.own ((Chg.refl (fun q => wo.heap.size ≤ q) wo).below hBow (fun _ _ h => h)) (fun q hq h => by have := (hlr.own.lt q hq).2; omega)
                      have hm : MineN 2 A w2 wr 31 u8 k (entsCells B) := ⟨hbo, hBw.trans (hBow.mono hAs), by have := hBow.size; omega⟩
                      have hl1 : k + 1 ≤ maxLen := by unfold maxLen; omega
                      have hl2 : (k + 1) * 40 ≤ 140737488355328 := by omega
                      have hrn := of_decide_eq_false HY.out
                      by_cases hn0 : n1 = 0
                      · have hkn : keepC R ecs = [] := List.eq_nil_of_length_eq_zero (by rw [hkl]; exact hn0)
                        subst hn0
                        by_cases hc0 : j = 0
                        · have hen : ecs = [] := List.eq_nil_of_length_eq_zero (by rw [HCN.out]; exact hc0)
                          have hds : leftE R ⟨eid, ecs⟩ = ⟨eid, keepC R ecs⟩ := left_root (R := R) (e := ⟨eid, ecs⟩) hen
                          have hone : ∀ u ∈ (#[Value.string eid, .slice va 0 vc] : Array Value).toList, u.oneCell' = true := by intro u hu; simp at hu; rcases hu with rfl | rfl <;> rfl
                          have HST := hid (fun (w2 : World) (g cap : Nat) => LeftR.step (w2 := w2) (g := g) (cap := cap) hlr (Nat.le_refl _) hBow HE.out hrn hds rfl hkl hc1 hc2 hsv (fun b off q => by have := hva b off q; omega))
                          subst hc0
                          clear hsv hva hbo how hds hen
                          go_wp2_with (at_builtin; refine wpl_appN rfl _ _ 22 rfl 31 _ 2 40 Tryd.ulEnts Tryd.inEnt rfl (by decide) _ _ _ _ _ hm rfl #[.string eid, .slice va 0 vc] rfl hone rfl hl1 hl2 ?_; intro g2 cap2 w2 hm2 hg2 hBg2 hat2)
                          go_roundw
                          case rel => exact ⟨i + 1, k + 1, _, by go_num, by omega, by omega, HST.out _ _ _ hg2 hat2 hm2.own, hm2.below, hm2.base⟩
                          case measure => first | (simp [intOf]; omega) | simp [intOf]
                        · have hj0 : (0 : Int) < (j : Int) := by omega
                          have hnX := World.new_ne wr _ c1
                          have c1a := (hx.alloc (.cells #[.string eid] 9)).cell 1
                          have f1a := (hx.alloc (.cells #[.string eid] 9)).free 1
                          go_upto_region 29 with fail
                          have hen : ecs ≠ [] := fun q => hc0 (by rw [← HCN.out, q]; rfl)
                          have hds : leftE R ⟨eid, ecs⟩ = ⟨eid, [eid]⟩ := left_self (R := R) (e := ⟨eid, ecs⟩) hkn hen
                          have hxW : Blk ((wr.alloc (.cells #[.string eid] 9)).setCell ⟨xb, 1, none⟩ (.slice (some ⟨wr.heap.size, 0, none⟩) 1 1)) xb 31 [.string eid, .slice (some ⟨wr.heap.size, 0, none⟩) 1 1] := (hx.alloc _).set 1 _
                          have hxz : wr.heap.size ≠ xb := by have := hx.lt; omega
                          have hsW : SlV ((wr.alloc (.cells #[.string eid] 9)).setCell ⟨xb, 1, none⟩ (.slice (some ⟨wr.heap.size, 0, none⟩) 1 1)) (some ⟨wr.heap.size, 0, none⟩) (strsV [eid]) :=
                            SlV.chg (S := fun q => q = xb) (slv_made wr #[.string eid] 9 (by simp)) ((Chg.refl (fun q => q = xb) _).set (p := ⟨xb, 1, none⟩) rfl _) (fun b off q _ => by cases q; exact hxz)
                          have hBW : Below wo.heap.size wo ((wr.alloc (.cells #[.string eid] 9)).setCell ⟨xb, 1, none⟩ (.slice (some ⟨wr.heap.size, 0, none⟩) 1 1)) := (hBow.alloc hBow.size _).setCell (p := ⟨xb, 1, none⟩) hsz0 _
                          have hwz := hBow.size
                          have hzW : wr.heap.size < ((wr.alloc (.cells #[.string eid] 9)).setCell ⟨xb, 1, none⟩ (.slice (some ⟨wr.heap.size, 0, none⟩) 1 1)).heap.size := by
                            obtain ⟨b, off, q, hb, _⟩ := hsW.cell 0 (.string eid) rfl
                            cases q
                            exact hb
                          clear hm hbo c0 c1 f1 a1i hnX c1a f1a hx how hsv hva
                          generalize (wr.alloc (.cells #[.string eid] 9)).setCell ⟨xb, 1, none⟩ (.slice (some ⟨wr.heap.size, 0, none⟩) 1 1) = W at *
                          generalize wr.heap.size = zb at *
                          have hbo := ownsRow_chgN hlr.own ((Chg.refl (fun q => wo.heap.size ≤ q) wo).below hBW (fun _ _ h => h)) (fun q hq h => by have := (hlr.own.lt q hq).2; omega)
                          have hm : MineN 2 A w2 W 31 u8 k (entsCells B) := ⟨hbo, hBw.trans (hBW.mono hAs), by have := hBW.size; omega⟩
                          have c0 : W.cell? ⟨xb, 0, none⟩ = some (.string eid) := hxW.cell 0
                          have c1 : W.cell? ⟨xb, 1, none⟩ = some (.slice (some ⟨zb, 0, none⟩) 1 1) := hxW.cell 1
                          have hone : ∀ u ∈ (#[Value.string eid, .slice (some ⟨zb, 0, none⟩) 1 1] : Array Value).toList, u.oneCell' = true := by intro u hu; simp at hu; rcases hu with rfl | rfl <;> rfl
                          have HST := hid (fun (w2 : World) (g cap : Nat) => LeftR.step (w2 := w2) (g := g) (cap := cap) (cl := 1) (vc := 1) hlr (Nat.le_refl _) hBW HE.out hrn hds rfl rfl (Nat.le_refl _) (by unfold maxLen; omega) hsW (fun b off q => by cases q; exact ⟨hwz, hzW⟩))
                          clear hsW hbo hds hen hxW
                          go_wp2_with (at_builtin; refine wpl_appN rfl _ _ 22 rfl 31 _ 2 40 Tryd.ulEnts Tryd.inEnt rfl (by decide) _ _ _ _ _ hm rfl #[.string eid, .slice (some ⟨zb, 0, none⟩) 1 1] rfl hone rfl hl1 hl2 ?_; intro g2 cap2 w2 hm2 hg2 hBg2 hat2)
                          go_roundw
                          case rel => exact ⟨i + 1, k + 1, _, by go_num, by omega, by omega, HST.out _ _ _ hg2 hat2 hm2.own, hm2.below, hm2.base⟩
                          case measure => first | (simp [intOf]; omega) | simp [intOf]
                      · have hds : leftE R ⟨eid, ecs⟩ = ⟨eid, keepC R ecs⟩ := left_some (R := R) (e := ⟨eid, ecs⟩) (fun q => by rw [q] at hkl; exact hn0 hkl.symm)
                        have hnI : ¬ (n1 : Int) = 0 := by omega
                        have hone : ∀ u ∈ (#[Value.string eid, .slice va n1 vc] : Array Value).toList, u.oneCell' = true := by intro u hu; simp at hu; rcases hu with rfl | rfl <;> rfl
                        have HST := hid (fun (w2 : World) (g cap : Nat) => LeftR.step (w2 := w2) (g := g) (cap := cap) hlr (Nat.le_refl _) hBow HE.out hrn hds rfl hkl hc1 hc2 hsv (fun b off q => by have := hva b off q; omega))
                        clear hsv hva hbo how hds
                        go_wp2_with (at_builtin; refine wpl_appN rfl _ _ 22 rfl 31 _ 2 40 Tryd.ulEnts Tryd.inEnt rfl (by decide) _ _ _ _ _ hm rfl #[.string eid, .slice va n1 vc] rfl hone rfl hl1 hl2 ?_; intro g2 cap2 w2 hm2 hg2 hBg2 hat2)
                        go_roundw
                        case rel => exact ⟨i + 1, k + 1, _, by go_num, by omega, by omega, HST.out _ _ _ hg2 hat2 hm2.own, hm2.below, hm2.base⟩
                        case measure => first | (simp [intOf]; omega) | simp [intOf]
              · cases u
                all_goals
                  go_wp2_with fail
                  refine wp_region_quiet_all (by kernel_rfl) (by kernel_rfl) ?_
                  repeat (go_big_quiet_step (exact HCI.out _))
                  refine wpQuiet_end ?_
                  have hr3 := hRo.below hB2.drew
                  have hq3 := in_any ro rc R e.id wr.drew hr3 (by omega)
                  rw [HY.out] at hq3
                  go_wp2_with fail
                  refine hq3.mono ?_
                  rintro e' w' ⟨rfl, rfl⟩
                  go_wp2_with fail
                  go_roundw
                  case rel => exact ⟨i + 1, k, B, by go_num, by omega, by omega, hlr.skip hB2.drew HE.out (of_decide_eq_true HY.out), hBw.trans (hB2.drew.mono (by omega)), Nat.le_trans hAs hB2.size⟩
                  case measure => first | (simp [intOf]; omega) | simp [intOf]
        · obtain rfl : i = n := by omega
          obtain ⟨bo, bc, hv6, hs6⟩ := own_rowN hlr.own (by unfold maxLen; omega)
          subst hv6
          have hBE : Ents wo bo B := ⟨hs6, fun e he => (hlr.cs e he).1, fun e he => (hlr.cs e he).2⟩
          have hps : ps B = restE R (ps L) := by rw [hlr.is, List.take_of_length_le (by simp [ps, HLN.out])]
          have hBl := hlr.len
          have hvL : ValidL L := by
            unfold judB at hj
            rw [Bool.and_eq_true] at hj
            exact validB_iff.1 hj.1
          have hE2 : Ents wo ao L := hE.below (by rw [hA]; exact hBw)
          have hR2 : SlV wo ro (strsV R) := hR.below (by rw [hA]; exact hBw)
          have hs2 := hs.below (by rw [hA]; exact hBw)
          have hBB : Below w.heap.size w wo := hB.trans (hBw.mono (by have := hB.size; omega))
          have HB2 := hid (fun (w : World) (id : ByteArray) (h : Ents w bo B) => bec_any bo bc B id w h (small_left hps HSM.out))
          have HAN := hid (fun (c : ByteArray) (x : List ByteArray) (er : Int) (h : BecIs B c x er) => left_ans hvL hps h)
          have HCH := hid (fun (x : List ByteArray) (s : ByteArray) (co : Option Addr) (cc : Nat) (w : World) (h : Ents w bo B) (hx : SlV w co (strsV x)) (h1 : x.getLast? = some s) (h2 : ∀ i, i < x.length → linkAt (ps B) x i) => chained_yes bo co bc cc B x s w h (by omega) (left_dist hvL hps) hx h1 h2 (left_cs hps hcs.out))
          rw [hBl] at HB2 HCH
          clear hlr hs6 hps hE hR hs hB hBw hBl HS0 HS1
          go_wp2_with fail
          go_loopw [14] (fun s14 wr => ∃ t : Nat, s14 = .int .i64 t ∧ t ≤ i ∧ Below wo.heap.size wo wr) (fun s14 _ => i - (intOf s14).toNat)
          case atStart => exact ⟨0, rfl, by omega, Below.refl _ _⟩
          case round =>
            obtain ⟨t, rfl, ht, hBw⟩ := hrel
            by_cases hti : t < i
            · have hEr := hE2.below hBw
              have hBr := hBE.below hBw
              obtain ⟨e, he⟩ : ∃ x, L[t]? = some x := ⟨_, List.getElem?_eq_getElem (by rw [HLN.out]; exact hti)⟩
              obtain ⟨b0, o0, ea, hb0, a0, -⟩ := hEr.at he
              obtain ⟨b3, o3, e3, hb3, c3⟩ := (hs2.below hBw).cell t (.bool (supB L R e.id)) (by unfold bools; rw [List.getElem?_map, supL_get he]; rfl)
              cases e3
              rw [Nat.zero_add] at c3
              have hq3 := in_any ro rc R e.id wr (hR2.below hBw) (by omega)
              obtain ⟨y, hy⟩ : ∃ y, decide (e.id ∈ R) = y := ⟨_, rfl⟩
              rw [hy] at hq3
              subst ea
              have htI : (t : Int) < (i : Int) := by omega
              clear he hy
              generalize e.id = eid at *
              go_wp2_with fail
              refine hq3.mono ?_
              rintro e' w' ⟨rfl, rfl⟩
              clear hq3
              cases y
              · go_wp2_with fail
                refine (HB2.out _ eid hBr).mono ?_
                rintro e5 w5 ⟨x, f, xo, xc, hbx, rfl, hsx, hB5⟩
                have a05 := (hB5.cell (p := ⟨b0, o0 + t * 2, none⟩) hb0).trans a0
                have c35 := (hB5.cell (p := ⟨sb, t, none⟩) hb3).trans c3
                have hBr5 := hBr.below hB5
                have HB7 := hid (bthen hBw hB5)
                rcases HAN.out _ _ _ hbx with ⟨h1, rfl, h3, h4⟩ | ⟨h1, rfl⟩
                · rw [h1] at c35
                  have hch := HCH.out x eid xo xc w5 hBr5 hsx h3 h4
                  clear h1 h3 h4 hbx hsx hBr5 a0 c3
                  generalize x.length = xl at *
                  go_wp2_with fail
                  refine hch.mono ?_
                  rintro e7 w7 ⟨rfl, hB7⟩
                  go_wp2_with fail
                  go_roundw
                  case rel => exact ⟨t + 1, by go_num, by omega, bthen HB7.out hB7⟩
                  case measure => first | (simp [intOf]; omega) | simp [intOf]
                · rw [h1] at c35
                  clear h1 hbx hsx hBr5 a0 c3
                  generalize x.length = xl at *
                  go_wp2_with fail
                  go_roundw
                  case rel => exact ⟨t + 1, by go_num, by omega, HB7.out⟩
                  case measure => first | (simp [intOf]; omega) | simp [intOf]
              · go_wp2_with fail
                go_roundw
                case rel => exact ⟨t + 1, by go_num, by omega, hBw⟩
                case measure => first | (simp [intOf]; omega) | simp [intOf]
            · go_wp2_with fail
              go_ret
              exact ⟨rfl, bthen hBB hBw⟩
theorem sups_law (a0 : Option Addr) (len0 cap0 : Nat) (z0 : List Ent) (a1 : Option Addr) (len1 cap1 : Nat) (z1 : List ByteArray) (W : World) (w0 : EntsArg W a0 len0 cap0 z0) (w1 : StrsArg W a1 len1 cap1 z1) :
    Calls Tryd.prog 3 #[.slice a0 len0 cap0, .slice a1 len1 cap1] W fun e w' => e = .returned (.bool true) ∧ Below W.heap.size W w' := by
  have h0 := w0.hlen
  have h1 := w1.hlen
  subst h0 h1
  exact sups_walk a0 a1 cap0 cap1 z0 z1 W w0.ents (Nat.le_trans w0.hcap w0.hmax) w1.slv
end Go.Proofs.YtgkgpfennlkcnaaDoor
