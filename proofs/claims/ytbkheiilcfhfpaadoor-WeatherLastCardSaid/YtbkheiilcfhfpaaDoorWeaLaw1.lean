/- WeatherOrder -/
import Derived.Test.YtbkheiilcfhfpaaDoorWeaHead
import Derived.Test.YtbkheiilcfhfpaaDoorWeaPlain
import Derived.Test.YtbkheiilcfhfpaaDoorWeaOpen
import Derived.Test.YtbkheiilcfhfpaaDoorLibN3
import Derived.Test.YtbkheiilcfhfpaaDoorLibQ
import Derived.RegionTactic
import Derived.BigRegion
import Derived.Lib.QuietBelow
import Derived.BigQuiet
namespace Go.Proofs.YtbkheiilcfhfpaaDoor
open Go.RowKit

theorem cd_world (w : World) (c : Cd) : ∃ W : World, w.alloc (.cells c.cells.toArray 26) = W ∧ Blk W w.heap.size 26 c.cells ∧ Below w.heap.size w W := ⟨_, rfl, Blk.new w _ _, below_alloc w _⟩
theorem inForce_any (s : Sp) (m : Int) (w : World) : Calls Tryd.prog 10 #[s.v, .int .i64 m] w fun e w' => e = .returned (.bool (inR m s.a s.b)) ∧ Below w.heap.size w w' := by
  obtain ⟨k, q, n, a, b⟩ := s
  simp only [Sp.v, Sp.cells]
  unfold inR
  by_cases h1 : a ≤ m
  · by_cases h2 : m ≤ b
    · rw [decide_eq_true ⟨h1, h2⟩]
      go_enter Tryd.func10, Tryd.ntmps10
      go_wp2_with fail
      go_ret
      exact ⟨ret_bool (by first | rfl | simp), below_alloc w _⟩
    · rw [decide_eq_false (fun h => h2 h.2)]
      go_enter Tryd.func10, Tryd.ntmps10
      go_wp2_with fail
      go_ret
      exact ⟨ret_bool (by first | rfl | simp | (simp; omega)), below_alloc w _⟩
  · rw [decide_eq_false (fun h => h1 h.1)]
    go_enter Tryd.func10, Tryd.ntmps10
    go_wp2_with fail
    go_ret
    exact ⟨ret_bool (by first | rfl | simp | (simp; omega)), below_alloc w _⟩
set_option maxHeartbeats 4000000 in
set_option maxRecDepth 100000 in
theorem order_walk (ao : Option Addr) (len cap : Nat) (L : List Sp) (m n raw : Int) (w : World) (hse : SpsArg w ao len cap L) (w1 : (Lit.int .i64 m).wf = true) (w2 : (Lit.int .i64 n).wf = true) (w3 : (Lit.int .u8 raw).wf = true) :
    Calls Tryd.prog 3 #[.slice ao len cap, .int .i64 m, .int .i64 n, .int .u8 raw] w fun e w' => e = .returned (.bool true) ∧ Below w.heap.size w w' := by
  have hmx := hse.hmax
  have hcp := hse.hcap
  by_cases h20 : 20 < len
  · have h20i : (20 : Int) < (len : Int) := by omega
    unfold maxLen at hmx
    go_enter Tryd.func3, Tryd.ntmps3
    go_wp2_with fail
    refine (head_any w).mono ?_
    rintro e w4 ⟨rfl, hB⟩
    go_wp2_with fail
    go_ret
    exact ⟨rfl, hB⟩
  have hA := hse.sps (by omega)
  have HLE := hid hse.hlen
  have HA1 := hid (fun (w : World) (h : Sps w ao L) => (hse.hlen ▸ cond_any ao cap L m w h (by rw [hse.hlen]; omega) : Calls Tryd.prog 9 #[.slice ao len cap, .int .i64 m] w fun e w' => e = .returned (.tuple #[(atL L m).1.v, .int .i64 (atL L m).2]) ∧ Below w.heap.size w w'))
  have HA2 := hid (fun (w : World) (h : Sps w ao L) => (hse.hlen ▸ cond_any ao cap L n w h (by rw [hse.hlen]; omega) : Calls Tryd.prog 9 #[.slice ao len cap, .int .i64 n] w fun e w' => e = .returned (.tuple #[(atL L n).1.v, .int .i64 (atL L n).2]) ∧ Below w.heap.size w w'))
  clear hse
  by_cases hv : (allB L && momB m) = true
  · by_cases hv2 : momB n = true
    · have e1 : atL L m = (condF L m, 0) := by unfold atL; rw [if_pos hv]
      have e2 : atL L n = (condF L n, 0) := by unfold atL; rw [if_pos (by simp at hv ⊢; exact ⟨hv.1, hv2⟩)]
      rw [e1] at HA1
      rw [e2] at HA2
      have HEQ := hid (fun h => cond_same (L := L) (m := m) (n := n) h)
      clear e1 e2
      obtain ⟨C, hC⟩ : ∃ C, condF L m = C := ⟨_, rfl⟩
      obtain ⟨D, hD⟩ : ∃ D, condF L n = D := ⟨_, rfl⟩
      rw [hC] at HA1 HEQ
      rw [hD] at HA2 HEQ
      have HC := hid hC
      have HV := hid hv
      clear hC hD hv hv2
      have q1 := cd_eql C D
      obtain ⟨c0, c1, c2, c3, c4, c5⟩ := C
      obtain ⟨d0, d1, d2, d3, d4, d5⟩ := D
      simp only [Cd.v, Cd.cells] at HA1 HA2 q1
      go_enter Tryd.func3, Tryd.ntmps3
      go_wp2_with fail
      refine (head_any w).mono ?_
      rintro e w4 ⟨rfl, hB⟩
      go_wp2_with fail
      refine (HA1.out _ (hA.below hB)).mono ?_
      rintro e w5 ⟨rfl, hB1⟩
      replace hB := hB.trans (hB1.mono hB.size)
      clear hB1
      go_wp2_with fail
      obtain ⟨W1, hW1, ha, hBa⟩ := cd_world w5 ⟨c0, c1, c2, c3, c4, c5⟩
      simp only [Cd.cells] at hW1 ha
      rw [hW1]
      clear hW1
      replace hB := hB.trans (hBa.mono hB.size)
      clear hBa
      refine (HA2.out _ (hA.below hB)).mono ?_
      rintro e w6 ⟨rfl, hB1⟩
      replace ha := ha.below hB1 ha.lt
      replace hB := hB.trans (hB1.mono hB.size)
      clear hB1
      generalize w5.heap.size = ba at *
      go_wp2_with fail
      obtain ⟨W2, hW2, hb, hBa⟩ := cd_world w6 ⟨d0, d1, d2, d3, d4, d5⟩
      simp only [Cd.cells] at hW2 hb
      rw [hW2]
      clear hW2
      replace ha := ha.below hBa ha.lt
      replace hB := hB.trans (hBa.mono hB.size)
      clear hBa
      generalize w6.heap.size = bb at *
      clear HA1 HA2
      go_loopw [14, 15] (fun s14 s15 wr => ∃ (E : Bool) (k : Nat), s14 = .bool E ∧ s15 = .int .i64 k ∧ k ≤ len ∧ Hid (E = true → ∀ s ∈ L.take k, inR m s.a s.b = inR n s.a s.b) ∧ Blk wr ba 26 [.int .i64 c0, .int .i64 c1, .int .i64 c2, .int .i64 c3, .int .i64 c4, .bool c5] ∧
          Blk wr bb 26 [.int .i64 d0, .int .i64 d1, .int .i64 d2, .int .i64 d3, .int .i64 d4, .bool d5] ∧ Below w.heap.size w wr) (fun _ s15 _ => len - (intOf s15).toNat)
      case atStart => exact ⟨true, 0, rfl, rfl, by omega, hid (by simp), ha, hb, hB⟩
      case round =>
        clear ha hb hB
        obtain ⟨E, k, rfl, rfl, hk, HE, ha, hb, hB⟩ := hrel
        by_cases hkl : k < len
        · obtain ⟨s, hs⟩ : ∃ t, L[k]? = some t := ⟨_, List.getElem?_eq_getElem (by rw [HLE.out]; omega)⟩
          obtain ⟨b, off, ea, hbl, a0, a1, a2, a3, a4⟩ := (hA.below hB).at hs
          subst ea
          clear hbl
          have HT : Hid (L.take (k + 1) = L.take k ++ [s]) := by unfold Hid; rw [List.take_add_one, hs]; rfl
          clear hs
          cases E with
          | false =>
            clear a0 a1 a2 a3 a4
            go_wp2_with fail
            refine wp_region_quiet_below (by kernel_rfl) (by kernel_rfl) ?_
            repeat (first | go_big_quiet_step (fail) | quiet_step (fail))
            refine wpQuiet_nil ?_
            intro _ hw'
            obtain ⟨⟨dq, osq⟩, hw''⟩ := hw'
            subst hw''
            have hBq := below_regrown wr dq osq
            go_wp2_with fail
            go_roundw
            case rel => exact ⟨false, k + 1, rfl, by go_num, by omega, hid (by simp), ha.below hBq ha.lt, hb.below hBq hb.lt, hB.trans (hBq.mono hB.size)⟩
            case measure => simp [intOf]; omega
          | true =>
            have HM := hid (fun w => inForce_any s m w)
            have HN := hid (fun w => inForce_any s n w)
            have HXY : Hid ((inR m s.a s.b == inR n s.a s.b) = true → ∀ s ∈ L.take (k + 1), inR m s.a s.b = inR n s.a s.b) := by
              intro h t ht
              rw [HT.out, List.mem_append] at ht
              rcases ht with ht | ht
              · exact HE.out rfl t ht
              · have : t = s := by simpa using ht
                subst this; simpa using h
            obtain ⟨sk, sq, sn, sa, sb⟩ := s
            simp only [Sp.v, Sp.cells] at a0 a1 a2 a3 a4 HM HN HXY
            generalize inR m sa sb = x at *
            generalize inR n sa sb = y at *
            have k0 := cell_regrown a0
            have k1 := cell_regrown a1
            have k2 := cell_regrown a2
            have k3 := cell_regrown a3
            have k4 := cell_regrown a4
            have cM := hid (fun d os => Calls.regrown_of (HM.out (Go.Sort.grow (redrawn wr d) os)))
            have cN := hid (fun d os => Calls.regrown_of (HN.out (Go.Sort.grow (redrawn wr d) os)))
            clear a0 a1 a2 a3 a4
            go_wp2_with fail
            refine wp_region_quiet_below (by kernel_rfl) (by kernel_rfl) ?_
            iterate 7 (first | go_big_quiet_step (fail) | quiet_step (fail))
            first | go_big_quiet_step (exact cM.out _ _) | quiet_step (exact cM.out _ _)
            iterate 5 (first | go_big_quiet_step (fail) | quiet_step (fail))
            first | go_big_quiet_step (exact cN.out _ _) | quiet_step (exact cN.out _ _)
            repeat (first | go_big_quiet_step (fail) | quiet_step (fail))
            refine wpQuiet_nil ?_
            intro _ hw'
            obtain ⟨⟨dq, osq⟩, hw''⟩ := hw'
            subst hw''
            have hBq := below_regrown wr dq osq
            clear k0 k1 k2 k3 k4 cM cN HM HN
            go_wp2_with fail
            go_roundw
            case rel => exact ⟨x == y, k + 1, rfl, by go_num, by omega, HXY, ha.below hBq ha.lt, hb.below hBq hb.lt, hB.trans (hBq.mono hB.size)⟩
            case measure => simp [intOf]; omega
        · have HCD : Hid (E = true → (⟨c0, c1, c2, c3, c4, c5⟩ : Cd) = ⟨d0, d1, d2, d3, d4, d5⟩) := by
            intro h
            refine HEQ.out (fun s hs => ?_)
            refine HE.out h s ?_
            rw [List.take_of_length_le (by rw [HLE.out]; omega)]
            exact hs
          clear HE HEQ q1
          go_upto_region 13 with fail
          go_cut [71] from 66 to 70 (fun s71 wx => s71 = .bool false ∧ Below wr.heap.size wr wx)
          case first =>
            cases E with
            | false =>
              go_wp2_with fail
              go_meet
              case rel => exact ⟨rfl, Below.refl _ _⟩
            | true =>
              have qn := cd_neq ⟨c0, c1, c2, c3, c4, c5⟩ ⟨d0, d1, d2, d3, d4, d5⟩
              rw [decide_eq_true (HCD.out rfl)] at qn
              simp only [Cd.v, Cd.cells, Bool.not_true] at qn
              clear HCD
              have y0 := ha.cell 0
              have z0 := hb.cell 0
              have y1 := ha.cell 1
              have z1 := hb.cell 1
              have y2 := ha.cell 2
              have z2 := hb.cell 2
              have y3 := ha.cell 3
              have z3 := hb.cell 3
              have y4 := ha.cell 4
              have z4 := hb.cell 4
              have y5 := ha.cell 5
              have z5 := hb.cell 5
              simp only [List.getElem?_cons_succ, List.getElem?_cons_zero] at y0 y1 y2 y3 y4 y5 z0 z1 z2 z3 z4 z5
              go_wp2_with fail
              go_meet
              case rel => exact ⟨rfl, Below.refl _ _⟩
          case rest =>
          obtain ⟨rfl, hB1⟩ := hcut
          replace ha := ha.below hB1 ha.lt
          replace hB := hB.trans (hB1.mono hB.size)
          clear hB1 HCD hb hk hkl
          by_cases hl2 : len < 2
          · go_wp2_with fail
            go_ret
            exact ⟨rfl, hB⟩
          have hr := u8_bd w3
          obtain ⟨j, hj, hjl⟩ : ∃ j : Nat, raw % ((len : Int) - 1) = j ∧ j < len - 1 := by
            have h1 := Int.emod_nonneg raw (b := (len : Int) - 1) (by omega)
            have h2 := Int.emod_lt_of_pos raw (b := (len : Int) - 1) (by omega)
            exact ⟨(raw % ((len : Int) - 1)).toNat, by omega, by omega⟩
          have hjt : raw.tmod ((len : Int) - 1) = j := by rw [Int.tmod_eq_emod_of_nonneg hr.1]; exact hj
          obtain ⟨s, hs⟩ : ∃ t, L[j]? = some t := ⟨_, List.getElem?_eq_getElem (by rw [HLE.out]; omega)⟩
          obtain ⟨t, ht⟩ : ∃ t, L[j + 1]? = some t := ⟨_, List.getElem?_eq_getElem (by rw [HLE.out]; omega)⟩
          have HSL := hid (swap_list hs ht)
          have Hs := hid hs
          have Ht := hid ht
          obtain ⟨b, off, ea, hbl, s0, s1, s2, s3, s4⟩ := (hA.below hB).at hs
          obtain ⟨b', off', ea', hbl', t0, t1, t2, t3, t4⟩ := (hA.below hB).at ht
          subst ea
          cases ea'
          clear hbl hbl' hs ht
          obtain ⟨sk, sq, sn, sa, sb⟩ := s
          obtain ⟨tk, tq, tn, ta, tb⟩ := t
          simp only at s0 s1 s2 s3 s4 t0 t1 t2 t3 t4 HSL Hs Ht
          go_upto_region 18 with fail
          go_cut [107] from 82 to 106 (fun s107 wx => wx = wc.drew ∧ ((s107 = .bool true) ∨ (s107 = .bool false ∧ ¬ (sa ≤ tb ∧ ta ≤ sb))))
          case first =>
            by_cases q1 : sa ≤ tb
            · by_cases q2 : ta ≤ sb
              · refine wp_region_quiet_all (by kernel_rfl) (by kernel_rfl) ?_
                repeat go_big_quiet_step (fail)
                refine wpQuiet_end ?_
                go_wp2_with fail
                go_meet
                case rel => exact ⟨rfl, .inl (by first | rfl | simp [q2])⟩
              · refine wp_region_quiet_all (by kernel_rfl) (by kernel_rfl) ?_
                repeat go_big_quiet_step (fail)
                refine wpQuiet_end ?_
                go_wp2_with fail
                go_meet
                case rel => exact ⟨rfl, .inr ⟨by first | rfl | simp [q2], fun h => by omega⟩⟩
            · have q1' : decide (sa ≤ tb) = false := decide_eq_false q1
              refine wp_region_quiet_all (by kernel_rfl) (by kernel_rfl) ?_
              repeat go_big_quiet_step (fail)
              refine wpQuiet_end ?_
              go_wp2_with fail
              go_meet
              case rel => exact ⟨rfl, .inr ⟨by first | rfl | simp [q1], fun h => by omega⟩⟩
          case rest =>
          obtain ⟨rfl, hst | ⟨hst, hne⟩⟩ := hcut
          · subst hst
            go_wp2_with fail
            go_ret
            exact ⟨rfl, hB.drew⟩
          subst hst
          clear s0 s1 s2 s3 s4 t0 t1 t2 t3 t4 hj hjt
          replace ha := ha.drew
          replace hB := hB.drew
          generalize wc.drew = wd at *
          have hm : MineN 5 wd.heap.size wd (wd.alloc (.cells #[] 32)) 32 (.slice (some ⟨wd.heap.size, 0, none⟩) 0 0) 0 [] := MineN.empty (Below.refl _ _) (Nat.le_refl _)
          have hvl : (spsCells L).length = len * 5 := by rw [spsCells_len, HLE.out]; omega
          have hsv : SlV (wd.alloc (.cells #[] 32)) (some ⟨b, off, none⟩) (spsCells L) := (hA.below hB).below (below_alloc wd _)
          have hone : ∀ u ∈ spsCells L, u.oneCell' = true := by
            intro u hu
            obtain ⟨p, _, hp⟩ := List.mem_flatMap.1 hu
            simp [Sp.cells] at hp
            rcases hp with rfl | rfl | rfl | rfl | rfl <;> rfl
          have hL1 : len ≤ maxLen := by omega
          have hL2 : len * 40 ≤ 140737488355328 := by omega
          go_wp2_with (at_builtin; refine wpl_appsN rfl _ _ 22 rfl 32 _ 5 40 Tryd.underlying22 Tryd.infoSpell rfl (by decide) _ _ _ _ _ hm rfl _ _ len (spsCells L) hvl hsv (fun h => by cases h) hone rfl len (Nat.zero_add len) hL1 hL2 ?_; intro aoT capT wt hmt hgt)
          have hBt : Below w.heap.size w wt := hB.trans (hmt.below.mono hB.size)
          obtain ⟨g, cpg, cur, hve, hgB, hblk, _, _, hxl, hget⟩ := hmt.open (by omega)
          rw [List.nil_append] at hget hxl hmt
          obtain ⟨rfl, rfl⟩ : aoT = some ⟨g, 0, none⟩ ∧ capT = cpg := by cases hve; exact ⟨rfl, rfl⟩
          clear hve
          have hgc : ∀ i v, (spsCells L)[i]? = some v → wt.cell? ⟨g, i, none⟩ = some v := fun i v h => by rw [hblk.cell, hget i (List.getElem?_eq_some_iff.1 h).1]; exact h
          have x0 : wt.cell? ⟨g, j * 5, none⟩ = some (.int .i64 sk) := hgc _ _ (spsCells_get L j _ Hs.out 0 (by omega))
          have fx0 := hblk.free (j * 5)
          have x1 : wt.cell? ⟨g, j * 5 + 1, none⟩ = some (.int .i64 sq) := hgc _ _ (spsCells_get L j _ Hs.out 1 (by omega))
          have fx1 := hblk.free (j * 5 + 1)
          have x2 : wt.cell? ⟨g, j * 5 + 2, none⟩ = some (.int .i64 sn) := hgc _ _ (spsCells_get L j _ Hs.out 2 (by omega))
          have fx2 := hblk.free (j * 5 + 2)
          have x3 : wt.cell? ⟨g, j * 5 + 3, none⟩ = some (.int .i64 sa) := hgc _ _ (spsCells_get L j _ Hs.out 3 (by omega))
          have fx3 := hblk.free (j * 5 + 3)
          have x4 : wt.cell? ⟨g, j * 5 + 4, none⟩ = some (.int .i64 sb) := hgc _ _ (spsCells_get L j _ Hs.out 4 (by omega))
          have fx4 := hblk.free (j * 5 + 4)
          have y0 : wt.cell? ⟨g, (j + 1) * 5, none⟩ = some (.int .i64 tk) := hgc _ _ (spsCells_get L (j + 1) _ Ht.out 0 (by omega))
          have fy0 := hblk.free ((j + 1) * 5)
          have y1 : wt.cell? ⟨g, (j + 1) * 5 + 1, none⟩ = some (.int .i64 tq) := hgc _ _ (spsCells_get L (j + 1) _ Ht.out 1 (by omega))
          have fy1 := hblk.free ((j + 1) * 5 + 1)
          have y2 : wt.cell? ⟨g, (j + 1) * 5 + 2, none⟩ = some (.int .i64 tn) := hgc _ _ (spsCells_get L (j + 1) _ Ht.out 2 (by omega))
          have fy2 := hblk.free ((j + 1) * 5 + 2)
          have y3 : wt.cell? ⟨g, (j + 1) * 5 + 3, none⟩ = some (.int .i64 ta) := hgc _ _ (spsCells_get L (j + 1) _ Ht.out 3 (by omega))
          have fy3 := hblk.free ((j + 1) * 5 + 3)
          have y4 : wt.cell? ⟨g, (j + 1) * 5 + 4, none⟩ = some (.int .i64 tb) := hgc _ _ (spsCells_get L (j + 1) _ Ht.out 4 (by omega))
          have fy4 := hblk.free ((j + 1) * 5 + 4)
          obtain ⟨b1, off1, ea1, hb1, s0, s1, s2, s3, s4⟩ := (hA.below hBt).at Hs.out
          cases ea1
          obtain ⟨b2, off2, ea2, hb2, t0, t1, t2, t3, t4⟩ := (hA.below hBt).at Ht.out
          cases ea2
          have hbg : b ≠ g := by
            obtain ⟨b0, off0, ea0, hb0, _⟩ := hA.at Hs.out
            cases ea0
            have := hB.size
            omega
          simp only at s0 s1 s2 s3 s4 t0 t1 t2 t3 t4
          clear hb1 hb2 hsv hm hone hvl hgc
          go_region
          have hmz := ((((((((((hmt.put (j * 5) (.int .i64 tk)).put (j * 5 + 1) (.int .i64 tq)).put (j * 5 + 2) (.int .i64 tn)).put (j * 5 + 3) (.int .i64 ta)).put (j * 5 + 4) (.int .i64 tb)).put ((j + 1) * 5) (.int .i64 sk)).put ((j + 1) * 5 + 1) (.int .i64 sq)).put ((j + 1) * 5 + 2) (.int .i64 sn)).put ((j + 1) * 5 + 3) (.int .i64 sa)).put ((j + 1) * 5 + 4) (.int .i64 sb))
          have hz1 := spsCells_put L j ⟨tk, tq, tn, ta, tb⟩ (by rw [HLE.out]; omega)
          have hz2 := spsCells_put (L.set j ⟨tk, tq, tn, ta, tb⟩) (j + 1) ⟨sk, sq, sn, sa, sb⟩ (by rw [List.length_set, HLE.out]; omega)
          simp only at hz1 hz2
          rw [hz1, hz2] at hmz
          have hLl : ((L.set j ⟨tk, tq, tn, ta, tb⟩).set (j + 1) ⟨sk, sq, sn, sa, sb⟩).length = len := by rw [List.length_set, List.length_set, HLE.out]
          have hat : atL ((L.set j ⟨tk, tq, tn, ta, tb⟩).set (j + 1) ⟨sk, sq, sn, sa, sb⟩) m = (⟨c0, c1, c2, c3, c4, c5⟩, 0) := by
            obtain ⟨A, B, eL, eL'⟩ := HSL.out
            have hC := HC.out
            have hV := HV.out
            rw [eL] at hC hV
            rw [eL']
            unfold atL
            rw [all_swap, if_pos hV, cond_swap hne, hC]
          clear hz1 hz2 HSL
          generalize (L.set j ⟨tk, tq, tn, ta, tb⟩).set (j + 1) ⟨sk, sq, sn, sa, sb⟩ = L' at *
          replace ha := ha.below hmz.below ha.lt
          have hBz : Below w.heap.size w _ := hB.trans (hmz.below.mono hB.size)
          clear hmt hgt hblk hget hxl
          generalize ((((((((((wt.setCell ⟨g, j * 5, none⟩ (.int .i64 tk)).setCell ⟨g, j * 5 + 1, none⟩ (.int .i64 tq)).setCell ⟨g, j * 5 + 2, none⟩ (.int .i64 tn)).setCell ⟨g, j * 5 + 3, none⟩ (.int .i64 ta)).setCell ⟨g, j * 5 + 4, none⟩ (.int .i64 tb)).setCell ⟨g, (j + 1) * 5, none⟩ (.int .i64 sk)).setCell ⟨g, (j + 1) * 5 + 1, none⟩ (.int .i64 sq)).setCell ⟨g, (j + 1) * 5 + 2, none⟩ (.int .i64 sn)).setCell ⟨g, (j + 1) * 5 + 3, none⟩ (.int .i64 sa)).setCell ⟨g, (j + 1) * 5 + 4, none⟩ (.int .i64 sb)) = wz at *
          clear hBt
          replace ha := ha.drew
          replace hBz := hBz.drew
          have hsz : Sps wz.drew (some ⟨g, 0, none⟩) L' := by
            obtain ⟨ao9, cap9, hv9, hs9, _⟩ := hmz.slv (by rw [spsCells_len, hLl]; unfold maxLen; omega)
            cases hv9
            exact SlV.below hs9 ((Below.refl _ wz).drew)
          clear hmz
          generalize wz.drew = wy at *
          have HA3 := hid (hLl ▸ at_eq hat (by rw [hLl]; omega) rfl hsz (cap := capT) : Calls Tryd.prog 9 #[.slice (some ⟨g, 0, none⟩) len capT, .int .i64 m] wy fun e w' => e = .returned (.tuple #[.agg #[.int .i64 c0, .int .i64 c1, .int .i64 c2, .int .i64 c3, .int .i64 c4, .bool c5], .int .i64 0]) ∧ Below wy.heap.size wy w')
          go_wp2_with fail
          refine HA3.out.mono ?_
          rintro e wx ⟨rfl, hBx⟩
          replace ha := ha.below hBx ha.lt
          replace hBz := hBz.trans (hBx.mono hBz.size)
          have y0 := (cell2 (ha.cell 0)).1
          have y1 := (cell2 (ha.cell 1)).1
          have y2 := (cell2 (ha.cell 2)).1
          have y3 := (cell2 (ha.cell 3)).1
          have y4 := (cell2 (ha.cell 4)).1
          have y5 := (cell2 (ha.cell 5)).1
          have qe := cd_eql ⟨c0, c1, c2, c3, c4, c5⟩ ⟨c0, c1, c2, c3, c4, c5⟩
          simp only [Cd.v, Cd.cells, decide_true] at qe
          clear hBx HA3
          go_wp2_with fail
          go_ret
          exact ⟨ret_bool (by first | rfl | simp), hBz.alloc hBz.size _⟩
    · have e2 : atL L n = (cd0, 1) := by
        unfold atL; rw [if_neg]; simp at hv2 ⊢; intro _; exact hv2
      rw [e2] at HA2
      generalize atL L m = R2 at *
      obtain ⟨⟨c0, c1, c2, c3, c4, c5⟩, x⟩ := R2
      simp only [Cd.v, Cd.cells, cd0] at HA1 HA2
      (go_enter Tryd.func3, Tryd.ntmps3  ;go_wp2_with fail  ;refine (head_any w).mono ?_  ;rintro e w4 ⟨rfl, hB⟩  ;go_wp2_with fail  ;refine (HA1.out _ (hA.below hB)).mono ?_  ;rintro e w5 ⟨rfl, hB1⟩  ;replace hB := hB.trans (hB1.mono hB.size)  ;clear hB1  ;go_wp2_with fail  ;refine (HA2.out _ (hA.below (hB.alloc hB.size _))).mono ?_  ;rintro e w6 ⟨rfl, hB1⟩  ;replace hB := (hB.alloc hB.size _).trans (hB1.mono (by have := hB.size; rw [World.size_alloc]; omega))  ;clear hB1  ;go_wp2_with fail  ;all_goals (go_ret; exact ⟨rfl, hB.alloc hB.size _⟩))
  · have e1 : atL L m = (cd0, 1) := by unfold atL; rw [if_neg hv]
    rw [e1] at HA1
    generalize atL L n = R2 at *
    obtain ⟨⟨c0, c1, c2, c3, c4, c5⟩, x⟩ := R2
    simp only [Cd.v, Cd.cells, cd0] at HA1 HA2
    (go_enter Tryd.func3, Tryd.ntmps3  ;go_wp2_with fail  ;refine (head_any w).mono ?_  ;rintro e w4 ⟨rfl, hB⟩  ;go_wp2_with fail  ;refine (HA1.out _ (hA.below hB)).mono ?_  ;rintro e w5 ⟨rfl, hB1⟩  ;replace hB := hB.trans (hB1.mono hB.size)  ;clear hB1  ;go_wp2_with fail  ;refine (HA2.out _ (hA.below (hB.alloc hB.size _))).mono ?_  ;rintro e w6 ⟨rfl, hB1⟩  ;replace hB := (hB.alloc hB.size _).trans (hB1.mono (by have := hB.size; rw [World.size_alloc]; omega))  ;clear hB1  ;go_wp2_with fail  ;all_goals (go_ret; exact ⟨rfl, hB.alloc hB.size _⟩))
end Go.Proofs.YtbkheiilcfhfpaaDoor
