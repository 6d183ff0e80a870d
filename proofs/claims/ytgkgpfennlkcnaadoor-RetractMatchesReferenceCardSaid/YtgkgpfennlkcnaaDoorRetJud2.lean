/- retract: judge, of valid entries -/
import Derived.Test.YtgkgpfennlkcnaaDoorRetJud
namespace Go.Proofs.YtgkgpfennlkcnaaDoor
open Go.RowKit

theorem que_cut (g off l cap : Nat) (h : l + 1 ≤ cap) (w : World) : (Instr.slice 55 (.slice (some ⟨g, off, none⟩) (l + 1) cap) (some (.int .i64 1)) none none).run Tryd.prog w = .ok (.slice (some ⟨g, if 1 = cap then off else off + 1, none⟩) l (cap - 1)) w := by
  obtain ⟨i, hi, hz, hs, hb⟩ := info_parts Tryd.inInt1
  unfold Instr.slice Instr.sliceBounds Instr.sliceBound
  have hu := run_underlying (P := Tryd.prog) Tryd.ulInt1
  have h1 : ((l : Int) + 1).toNat = l + 1 := by omega
  have h2 : (1 : Int) ≤ (l : Int) + 1 := by omega
  have h3 : (l : Int) + 1 ≤ (cap : Int) := by omega
  simp [go_sem, hu, sizeOf, typeInfo, hi, hs, h1, h2, h3]
  by_cases hc : cap = 1
  · simp [hc]
  · have hc' : ¬ 1 = cap := fun e => hc e.symm
    simp [hc, hc']
theorem jud_end {w wr : World} {L : List Ent} {R : List ByteArray} {b1 b2 gb sb n : Nat} (h1 : Blk wr b1 26 [.slice (some ⟨gb, 0, none⟩) n n]) (h2 : Blk wr b2 26 [.slice (some ⟨sb, 0, none⟩) n n]) (hgb : Blk wr gb 4 (bools (goneL L R))) (hsb : Blk wr sb 4 (bools (supL L R)))
    (hB : Below w.heap.size w wr) (l1 : w.heap.size ≤ b1) (l2 : w.heap.size ≤ b2) (d1 : gb ≠ b1) (d2 : gb ≠ b2) (d3 : sb ≠ b1) (d4 : sb ≠ b2) (hn : n ≤ 1000) (hL : L.length = n) {wx : World} (hc : Chg (fun k => k = b1 ∨ k = b2) wr wx) :
    JudYes L R n w (.returned (.tuple #[.slice (some ⟨gb, 0, none⟩) n n, .slice (some ⟨sb, 0, none⟩) n n, .int .i64 0])) wx := by
  have hgb' := hgb.chg hc (by omega)
  have hsb' := hsb.chg hc (by omega)
  have e1 : (bools (goneL L R)).length = n := by unfold bools goneL; simp [hL]
  have e2 : (bools (supL L R)).length = n := by unfold bools supL; simp [hL]
  refine ⟨gb, sb, rfl, ⟨by unfold maxLen; omega, fun i x hi => ⟨gb, 0, rfl, hgb'.lt, by rw [hgb'.cell, Nat.zero_add]; exact hi⟩⟩, ⟨by unfold maxLen; omega, fun i x hi => ⟨sb, 0, rfl, hsb'.lt, by rw [hsb'.cell, Nat.zero_add]; exact hi⟩⟩, hB.trans (hc.toBelow hB.size (fun k hk => by omega))⟩
theorem goneL_nil' {L : List Ent} {n : Nat} (h : L.length = n) : goneL L [] = List.replicate n false := by rw [← h]; exact goneL_nil L
theorem made_bools (n : Nat) : (madeCells #[Value.bool false] n).toList = bools (List.replicate n false) := by
  have := madeCells_one (Value.bool false) n rfl
  unfold bools
  rw [List.map_replicate]
  exact this
/-- both lists of truth values are made -/
def JudS (w3 : World) (b1 b2 n : Nat) (wx : World) : Prop := ∃ gb sb, gb ≠ sb ∧ w3.heap.size ≤ gb ∧ w3.heap.size ≤ sb ∧ Blk wx b1 26 [.slice (some ⟨gb, 0, none⟩) n n] ∧ Blk wx b2 26 [.slice (some ⟨sb, 0, none⟩) n n] ∧ Blk wx gb 4 (bools (List.replicate n false)) ∧ Blk wx sb 4 (bools (List.replicate n false)) ∧ Chg (fun k => k = b1 ∨ k = b2) w3 wx
abbrev OB (n : Nat) : Obj := .cells (madeCells #[.bool false] n) 4
theorem jud2a {w3 : World} {b1 b2 n x y : Nat} (h1 : Blk w3 b1 26 [.slice none 0 0]) (h2 : Blk w3 b2 26 [.slice none 0 0]) (hne : b2 ≠ b1) (hxy : (x = w3.heap.size ∧ y = w3.heap.size + 1) ∨ (x = w3.heap.size + 1 ∧ y = w3.heap.size)) :
    JudS w3 b1 b2 n ((((w3.alloc (OB n)).alloc (OB n)).setCell ⟨b1, 0, none⟩ (.slice (some ⟨x, 0, none⟩) n n)).setCell ⟨b2, 0, none⟩ (.slice (some ⟨y, 0, none⟩) n n)).drew := by
  have l1 := h1.lt
  have l2 := h2.lt
  have k1 := (((h1.alloc (OB n)).alloc (OB n)).set 0 (.slice (some ⟨x, 0, none⟩) n n)).other ⟨b2, 0, none⟩ hne.symm (.slice (some ⟨y, 0, none⟩) n n)
  have k2 := (((h2.alloc (OB n)).alloc (OB n)).other ⟨b1, 0, none⟩ hne (.slice (some ⟨x, 0, none⟩) n n)).set 0 (.slice (some ⟨y, 0, none⟩) n n)
  have m1 := (Blk.new w3 (madeCells #[.bool false] n) 4).alloc (OB n)
  have m2 := Blk.new (w3.alloc (OB n)) (madeCells #[.bool false] n) 4
  rw [made_bools] at m1 m2
  rw [World.size_alloc] at m2
  have q1 := (m1.other ⟨b1, 0, none⟩ (by show _ ≠ b1; omega) (.slice (some ⟨x, 0, none⟩) n n)).other ⟨b2, 0, none⟩ (by show _ ≠ b2; omega) (.slice (some ⟨y, 0, none⟩) n n)
  have q2 := (m2.other ⟨b1, 0, none⟩ (by show _ ≠ b1; omega) (.slice (some ⟨x, 0, none⟩) n n)).other ⟨b2, 0, none⟩ (by show _ ≠ b2; omega) (.slice (some ⟨y, 0, none⟩) n n)
  have hc : Chg (fun k => k = b1 ∨ k = b2) w3 ((((w3.alloc (OB n)).alloc (OB n)).setCell ⟨b1, 0, none⟩ (.slice (some ⟨x, 0, none⟩) n n)).setCell ⟨b2, 0, none⟩ (.slice (some ⟨y, 0, none⟩) n n)).drew := (((((Chg.refl _ w3).alloc _).alloc _).set (p := ⟨b1, 0, none⟩) (.inl rfl) _).set (p := ⟨b2, 0, none⟩) (.inr rfl) _).drew
  rcases hxy with ⟨rfl, rfl⟩ | ⟨rfl, rfl⟩
  · exact ⟨_, _, by omega, Nat.le_refl _, by omega, k1, k2, q1, q2, hc⟩
  · exact ⟨_, _, by omega, by omega, Nat.le_refl _, k1, k2, q2, q1, hc⟩
theorem jud2b {w3 : World} {b1 b2 n : Nat} (h1 : Blk w3 b1 26 [.slice none 0 0]) (h2 : Blk w3 b2 26 [.slice none 0 0]) (hne : b2 ≠ b1) :
    JudS w3 b1 b2 n ((((w3.alloc (OB n)).setCell ⟨b1, 0, none⟩ (.slice (some ⟨w3.heap.size, 0, none⟩) n n)).alloc (OB n)).setCell ⟨b2, 0, none⟩ (.slice (some ⟨w3.heap.size + 1, 0, none⟩) n n)).drew := by
  have l1 := h1.lt
  have l2 := h2.lt
  have k1 := (((h1.alloc (OB n)).set 0 (.slice (some ⟨w3.heap.size, 0, none⟩) n n)).alloc (OB n)).other ⟨b2, 0, none⟩ hne.symm (.slice (some ⟨w3.heap.size + 1, 0, none⟩) n n)
  have k2 := (((h2.alloc (OB n)).other ⟨b1, 0, none⟩ hne (.slice (some ⟨w3.heap.size, 0, none⟩) n n)).alloc (OB n)).set 0 (.slice (some ⟨w3.heap.size + 1, 0, none⟩) n n)
  have m1 := ((Blk.new w3 (madeCells #[.bool false] n) 4).other ⟨b1, 0, none⟩ (by show _ ≠ b1; omega) (.slice (some ⟨w3.heap.size, 0, none⟩) n n)).alloc (OB n)
  have m2 := Blk.new ((w3.alloc (OB n)).setCell ⟨b1, 0, none⟩ (.slice (some ⟨w3.heap.size, 0, none⟩) n n)) (madeCells #[.bool false] n) 4
  rw [made_bools] at m1 m2
  rw [World.size_setCell, World.size_alloc] at m2
  have q1 := m1.other ⟨b2, 0, none⟩ (by show _ ≠ b2; omega) (.slice (some ⟨w3.heap.size + 1, 0, none⟩) n n)
  have q2 := m2.other ⟨b2, 0, none⟩ (by show _ ≠ b2; omega) (.slice (some ⟨w3.heap.size + 1, 0, none⟩) n n)
  exact ⟨_, _, by omega, Nat.le_refl _, by omega, k1, k2, q1, q2, (((((Chg.refl _ w3).alloc _).set (p := ⟨b1, 0, none⟩) (.inl rfl) _).alloc _).set (p := ⟨b2, 0, none⟩) (.inr rfl) _).drew⟩
set_option maxHeartbeats 4000000 in
set_option maxRecDepth 100000 in
theorem jud_yes (ao ro : Option Addr) (cap rc : Nat) (L : List Ent) (R : List ByteArray) (w : World) (hE : Ents w ao L) (hS : Small L) (hRo : SlV w ro (strsV R)) (hj : judB L R = true) :
    Calls Tryd.prog 26 #[.slice ao L.length cap, .slice ro R.length rc] w (JudYes L R L.length w) := by
  have HR := hid (fun w (h : Ents w ao L) => read_any ao cap L w h hS)
  unfold judB at hj
  simp only [Bool.and_eq_true, decide_eq_true_eq] at hj
  obtain ⟨hv, hm⟩ := hj
  have hVL := validB_iff.1 hv
  have HF := hid hVL.2.1
  have hn := hVL.1
  clear hVL
  generalize hLn : L.length = n at *
  generalize hRm : R.length = m at *
  have HLN := hid hLn
  have HRM := hid hRm
  clear hLn hRm
  go_enter Tryd.func26, Tryd.ntmps26  ;go_upto_region 1 with fail  ;obtain ⟨w1, hw1, h1, h2, hB⟩ := jud_world w  ;rw [hw1]  ;clear hw1  ;go_wp2_with fail  ;refine (HR.out _ (hE.below hB)).mono ?_
  rintro e w2 ⟨mb, F, rfl, hGr, hB1⟩
  replace hGr := hGr hv
  have hA1 : w1.heap.size ≤ w2.heap.size := hB1.size
  have hA2 := h2.lt
  replace h1 := h1.below hB1 h1.lt  ;replace h2 := h2.below hB1 h2.lt  ;replace hB := hB.trans (hB1.mono hB.size)  ;have hwb : w.heap.size + 1 ≠ w.heap.size := (by omega)  ;have hle1 : w.heap.size ≤ w.heap.size + 1 := (by omega)  ;obtain ⟨b1, hb1⟩ : ∃ b, w.heap.size = b := ⟨_, rfl⟩  ;obtain ⟨b2, hb2⟩ : ∃ b, w.heap.size + 1 = b := ⟨_, rfl⟩  ;have hlt1 := h1.lt  ;have hlt2 := h2.lt
  simp only [hb2] at h2 hwb hle1 hlt2 hA2 ⊢
  simp only [hb1] at h1 hwb hle1 hlt1 ⊢
  have HB1 := hid hb1
  clear hB1 HR hb1 hb2
  have hA3 : b1 < w1.heap.size := by omega
  generalize w1.heap.size = A at *
  rw [hv]
  go_upto_region 2 with fail
  obtain ⟨w3, hw3, hG, hBa⟩ := gr_world w2 mb F n
  rw [hw3]
  clear hw3
  replace h1 := h1.below hBa h1.lt
  replace h2 := h2.below hBa h2.lt
  replace hGr := hGr.below hBa
  replace hB := hB.trans (hBa.mono hB.size)
  clear hBa
  generalize w2.heap.size = b3 at *
  have c1 := h1.cell 0
  have c2 := h2.cell 0
  have f1 := h1.free 0
  have f2 := h2.free 0
  simp only [List.getElem?_cons_zero] at c1 c2
  have hmI : ¬ (1000 : Int) < (m : Int) := by omega
  have hb3 : b3 < w3.heap.size := hG.lt
  have hb2w : b2 < w3.heap.size := h2.lt
  have hmk := fun w => run_make_row' (P := Tryd.prog) 26 4 (.bool false) 1 Tryd.ulBools Tryd.inBool rfl .i64 .i64 n (by omega) (by omega) w
  go_upto_region 4 with fail
  go_cut [] from 32 to 37 (fun wx => JudS w3 b1 b2 n wx)
  case first =>
    have k1 := (h1.alloc (.cells (madeCells #[.bool false] n) 4)).alloc (.cells (madeCells #[.bool false] n) 4)
    have k2 := (h2.alloc (.cells (madeCells #[.bool false] n) 4)).alloc (.cells (madeCells #[.bool false] n) 4)
    have q1 := h1.alloc (.cells (madeCells #[.bool false] n) 4)
    have q2 := h2.alloc (.cells (madeCells #[.bool false] n) 4)
    have p1 := q1.cell 0
    have p2 := q2.cell 0
    have r1 := q1.free 0
    have r2 := q2.free 0
    simp only [List.getElem?_cons_zero] at p1 p2
    have s2 := (q2.other ⟨b1, 0, none⟩ hwb (.slice (some ⟨w3.heap.size, 0, none⟩) n n)).alloc (.cells (madeCells #[.bool false] n) 4)
    have s1 := (q1.other ⟨b2, 0, none⟩ hwb.symm (.slice (some ⟨w3.heap.size, 0, none⟩) n n)).alloc (.cells (madeCells #[.bool false] n) 4)
    have t1 := s1.cell 0
    have t2 := s2.cell 0
    have t3 := s1.free 0
    have t4 := s2.free 0
    simp only [List.getElem?_cons_zero] at t1 t2
    clear q1 q2 s1 s2
    have d1 := k1.cell 0
    have d2 := k2.cell 0
    have e1 := k1.free 0
    have e2 := k2.free 0
    simp only [List.getElem?_cons_zero] at d1 d2
    have H1 := hid h1
    have H2 := hid h2
    have hx1 : b1 ≠ w3.heap.size := by omega
    have hx2 : b2 ≠ w3.heap.size := by omega
    have hy1 : b1 ≠ w3.heap.size + 1 := by omega
    have hy2 : b2 ≠ w3.heap.size + 1 := by omega
    have hx1' := hx1.symm
    have hx2' := hx2.symm
    have hy1' := hy1.symm
    have hy2' := hy2.symm
    clear k1 k2 h1 h2 hG hb3 hb2w
    go_region
    all_goals
      clear p1 p2 r1 r2 t1 t2 t3 t4 d1 d2 e1 e2 c1 c2 f1 f2 hmk
      go_wp2_with fail
      go_meet
      case rel =>
        first
          | (with_reducible refine jud2a H1.out H2.out hwb ?_); first | exact .inl ⟨rfl, rfl⟩ | exact .inr ⟨rfl, rfl⟩
          | with_reducible exact jud2b H1.out H2.out hwb
  case rest =>
  obtain ⟨gb, sb, hgs, hg3, hs3, h1', h2', hgb, hsb, hc4⟩ := hcut
  clear hmk c1 c2 f1 f2 h1 h2
  replace hG := hG.chg hc4 (by omega)
  replace hGr := hGr.chg hc4 (fun k a b => by omega)
  have hle0 : w.heap.size ≤ b1 := by have := HB1.out; omega
  replace hB := hB.trans (hc4.toBelow hB.size (fun k hk => by omega))
  rw [← goneL_nil' HLN.out] at hgb
  have HF' : Hid (Front L L.length) := by rw [HLN.out]; exact hid HF.out
  clear hc4 HF
  go_wp2_with fail
  go_loopw [40] (fun s40 wr => ∃ k : Nat, s40 = .int .i64 k ∧ k ≤ m ∧ Blk wr b1 26 [.slice (some ⟨gb, 0, none⟩) n n] ∧ Blk wr b2 26 [.slice (some ⟨sb, 0, none⟩) n n] ∧ Blk wr b3 50 [.map (some mb), .slice (some ⟨F, 0, none⟩) n n] ∧
    Blk wr gb 4 (bools (goneL L (R.take k))) ∧ Blk wr sb 4 (bools (List.replicate n false)) ∧ Gr wr L mb F A b3 ∧ Below w.heap.size w wr) (fun s40 _ => m - (intOf s40).toNat)
  case atStart => exact ⟨0, rfl, by omega, h1', h2', hG, by simpa using hgb, hsb, hGr, hB⟩
  case round =>
    clear h1' h2' hG hgb hsb hGr hB
    obtain ⟨k, rfl, hk, h1, h2, hG, hgb, hsb, hGr, hB⟩ := hrel
    have g0 := hG.cell 0
    simp only [List.getElem?_cons_zero] at g0
    by_cases hkm : k < m
    · obtain ⟨c, hc⟩ : ∃ c, R[k]? = some c := ⟨_, List.getElem?_eq_getElem (by rw [HRM.out]; omega)⟩
      obtain ⟨bR, offR, eR, hbR, cR⟩ := (hRo.below hB).cell k (.string c) (by unfold strsV; rw [List.getElem?_map, hc]; rfl)
      subst eR
      have hlk := hGr.map.run_look strKey Tryd.ulMap Tryd.ulStr (Tryd.hv_int _) c true
      simp only [if_true] at hlk
      have HT : Hid (R.take (k + 1) = R.take k ++ [c]) := by unfold Hid; rw [List.take_add_one, hc]; rfl
      clear hbR hc
      rcases lk_at L L.length c with ⟨q1, q2⟩ | ⟨j, q1, q2, q3⟩
      · rw [q1] at hlk
        simp only [Option.getD_none, Option.isSome_none] at hlk
        have hgn : goneL L (R.take (k + 1)) = goneL L (R.take k) := by
          rw [HT.out]
          exact goneL_no (fun q => q2 (by rw [List.take_of_length_le (by rw [ids_len]; omega)]; exact q))
        have HGN := hid hgn
        clear q1 q2 hgn
        go_wp2_with fail
        go_roundw
        case rel => exact ⟨k + 1, by go_num, by omega, h1, h2, hG, by rw [HGN.out]; exact hgb, hsb, hGr, hB⟩
        case measure => simp [intOf]; omega
      · rw [q3] at hlk
        simp only [Option.getD_some, Option.isSome_some] at hlk
        have HGN := hid (goneL_yes (R := R.take k) HF'.out q2)
        have hjn : j < n := by have := HLN.out; omega
        have hjI : (j : Int) < (n : Int) := by omega
        have c1 := h1.cell 0
        have cg := hgb.cell j
        have fg := hgb.free j
        have hgl : (goneL L (R.take k)).length = n := by unfold goneL; rw [List.length_map, HLN.out]
        rw [bools_get (by omega)] at cg
        simp only [List.getElem?_cons_zero] at c1
        clear q1 q2 q3
        go_wp2_with fail
        have hcg : Chg (fun q => q = gb) wr (wr.setCell ⟨gb, j, none⟩ (.bool true)) := (Chg.refl (fun q => q = gb) wr).set (p := ⟨gb, j, none⟩) rfl _
        have hgb' := hgb.set j (.bool true)
        rw [bools_set, ← HGN.out, ← HT.out] at hgb'
        have HGB := hid hgb'
        clear cg fg hgb hgb' c1 g0 hlk
        go_roundw
        case rel => exact ⟨k + 1, by go_num, by omega, h1.chg hcg (by omega), h2.chg hcg (by omega), hG.chg hcg (by omega), HGB.out, hsb.chg hcg (fun q => hgs q.symm), hGr.chg hcg (fun q _ b => by omega), hB.trans (hcg.toBelow hB.size (fun q hq => by omega))⟩
        case measure => simp [intOf]; omega
    · obtain rfl : k = m := by omega
      rw [List.take_of_length_le (by rw [HRM.out]; omega)] at hgb
      clear hRo
      clear g0
      go_upto_region 14 with fail
      obtain ⟨w4, hw4, hQ1, hBa⟩ : ∃ W : World, wr.alloc (.cells #[.slice none 0 0] 55) = W ∧ Blk W wr.heap.size 55 [.slice none 0 0] ∧ Below wr.heap.size wr W := ⟨_, rfl, Blk.new wr _ _, below_alloc wr _⟩
      rw [hw4]
      clear hw4
      have hgl1 := hgb.lt
      have hsl1 := hsb.lt
      have hGl1 := hG.lt
      replace h1 := h1.below hBa h1.lt
      replace h2 := h2.below hBa h2.lt
      replace hG := hG.below hBa hG.lt
      replace hgb := hgb.below hBa hgb.lt
      replace hsb := hsb.below hBa hsb.lt
      replace hGr := hGr.below hBa
      replace hB := hB.trans (hBa.mono hB.size)
      have hQl := hQ1.lt
      clear hBa
      generalize wr.heap.size = Q1 at *
      have hgoneL : (goneL L R).length = n := by unfold goneL; rw [List.length_map, HLN.out]
      have hInv := Inv.start (L := L) (R := R)
      rw [HLN.out] at hInv
      have hrt0 : Roots L R (List.replicate n false) 0 := fun i e hi => by omega
      have hq0 := Que.nil w4 (Q1 + 1) 3
      have hts := todo_start n
      go_wp2_with fail
      go_loopw [59] (fun s59 wa => ∃ i : Nat, s59 = .int .i64 i ∧ i ≤ n ∧ Blk wa b1 26 [.slice (some ⟨gb, 0, none⟩) n n] ∧ Blk wa b2 26 [.slice (some ⟨sb, 0, none⟩) n n] ∧ Blk wa b3 50 [.map (some mb), .slice (some ⟨F, 0, none⟩) n n] ∧
        Blk wa gb 4 (bools (goneL L R)) ∧ Gr wa L mb F A b3 ∧ Below w.heap.size w wa ∧ Q1 < wa.heap.size ∧
        ∃ (sup : List Bool) (q : List Nat) (v : Value), Blk wa sb 4 (bools sup) ∧ Blk wa Q1 55 [v] ∧ Que wa (Q1 + 1) 3 v (natsV q) ∧ Inv L R sup q none ∧ Roots L R sup i ∧ todo sup q ≤ 2 * n) (fun s59 _ => n - (intOf s59).toNat)
      case atStart => exact ⟨0, rfl, by omega, h1, h2, hG, hgb, hGr, hB, hQl, _, [], _, hsb, hQ1, hq0, hInv, hrt0, by omega⟩
      case round =>
        clear h1 h2 hG hgb hGr hB hsb hQ1 hq0 hInv hrt0 hts hQl
        obtain ⟨i, rfl, hi, h1, h2, hG, hgb, hGr, hB, hQl, sup, q, v, hsb, hQ1, hq, hInv, hrt, htd⟩ := hrel
        by_cases hin : i < n
        · obtain ⟨e, he⟩ : ∃ t, L[i]? = some t := ⟨_, List.getElem?_eq_getElem (by rw [HLN.out]; omega)⟩
          obtain ⟨b, off, ea, hb, a0, a1⟩ := (hE.below hB).at he
          subst ea
          have HE := hid he
          clear he hb
          obtain ⟨eid, eao, ecs, ecap⟩ := e
          simp only at a0 a1
          obtain ⟨wo, hwo⟩ : ∃ wo : World, wo = wr := ⟨_, rfl⟩
          subst hwo
          generalize hcl : ecs.length = cl at *
          have HCL := hid hcl
          clear hcl
          go_upto_region 17 with fail
          obtain ⟨w5, hw5, hX, hBa⟩ : ∃ W : World, wo.alloc (.cells #[.string eid, .slice eao cl ecap] 31) = W ∧ Blk W wo.heap.size 31 [.string eid, .slice eao cl ecap] ∧ Below wo.heap.size wo W := ⟨_, rfl, Blk.new wo _ _, below_alloc wo _⟩
          rw [hw5]
          clear hw5 a0 a1
          replace h1 := h1.below hBa h1.lt
          replace h2 := h2.below hBa h2.lt
          replace hG := hG.below hBa hG.lt
          replace hgb := hgb.below hBa hgb.lt
          replace hsb := hsb.below hBa hsb.lt
          replace hQ1 := hQ1.below hBa hQ1.lt
          replace hq := hq.below hBa
          replace hGr := hGr.below hBa
          replace hB := hB.trans (hBa.mono hB.size)
          replace hQl : Q1 < w5.heap.size := hQ1.lt
          clear hBa
          generalize wo.heap.size = xb at *
          have x1 := hX.cell 1
          simp only [List.getElem?_cons_succ, List.getElem?_cons_zero] at x1
          have hsl : sup.length = n := by rw [hInv.len, HLN.out]
          have hqn := todo_que sup q
          by_cases hc0 : cl = 0
          · have hcs0 : ecs = [] := List.eq_nil_of_length_eq_zero (by rw [HCL.out, hc0])
            have hc0b : ((cl : Int) == 0) = true := by simp [hc0]
            have HS1 := hid (sup1_any i n b1 gb b2 sb Q1 (Q1 + 1) (goneL L R) sup v q w5 h1 hgb h2 hsb hQ1 hq hgoneL hsl hin hn (by omega) (by omega) (by omega) (fun q => hgs q.symm) (by omega) (by omega) (by omega) (by omega))
            have HI := hid (hInv.step HE.out (fun hr => Sup.root _ (ps_mem HE.out) hr hcs0))
            have hts := todo_step (gone := goneL L R) (q := q) (i := i) (sup := sup) (by omega)
            have HRT := hid (show Roots L R (stepS (goneL L R) sup q i).1 (i + 1) from fun j d hj hd hdc => by
              by_cases hji : j = i
              · subst hji
                exact stepS_done (by omega)
              · rcases hrt j d (by omega) hd hdc with r | r
                · exact .inl r
                · exact .inr (stepS_mono r))
            generalize stepS (goneL L R) sup q i = r at *
            clear hc0 hcs0 hInv hrt
            go_wp2_with fail
            refine HS1.out.mono ?_
            rintro en w6 ⟨rfl, hsb6, ⟨v6, hQ6, hq6⟩, hc6⟩
            go_wp2_with fail
            go_roundw
            case rel => exact ⟨i + 1, by go_num, by omega, h1.chg hc6 (by omega), h2.chg hc6 (by omega), hG.chg hc6 (by omega), hgb.chg hc6 (by omega), hGr.chg hc6 (fun q _ b => by omega), hB.trans (hc6.toBelow hB.size (fun q hq => by omega)), by have := hc6.size; omega, r.1, r.2, v6, hsb6, hQ6, hq6, HI.out, HRT.out, by omega⟩
            case measure => simp [intOf]; omega
          · have hc0b : ((cl : Int) == 0) = false := by rw [beq_eq_false_iff_ne]; omega
            have hrt' : Roots L R sup (i + 1) := fun j d hj hd hdc => by
              by_cases hji : j = i
              · subst hji
                rw [HE.out] at hd
                cases hd
                have hcs0 : ecs.length = 0 := by rw [show ecs = [] from hdc]; rfl
                have := HCL.out
                omega
              · exact hrt j d (by omega) hd hdc
            clear hrt
            go_wp2_with fail
            go_roundw
            case rel => exact ⟨i + 1, by go_num, by omega, h1, h2, hG, hgb, hGr, hB, hQl, sup, q, v, hsb, hQ1, hq, hInv, hrt', htd⟩
            case measure => simp [intOf]; omega
        · obtain rfl : i = n := by omega
          clear hE hi hin
          go_wp2_with fail
          go_loopg [72] (2 * i) (fun gk s72 wb => Blk wb b1 26 [.slice (some ⟨gb, 0, none⟩) i i] ∧ Blk wb b2 26 [.slice (some ⟨sb, 0, none⟩) i i] ∧ Blk wb b3 50 [.map (some mb), .slice (some ⟨F, 0, none⟩) i i] ∧
            Blk wb gb 4 (bools (goneL L R)) ∧ Gr wb L mb F A b3 ∧ Below w.heap.size w wb ∧ Q1 < wb.heap.size ∧
            ∃ (sup : List Bool) (q : List Nat) (v : Value), Blk wb sb 4 (bools sup) ∧ Blk wb Q1 55 [v] ∧ Que wb (Q1 + 1) 3 v (natsV q) ∧ Inv L R sup q none ∧ Roots L R sup i ∧ todo sup q ≤ gk ∧ gk ≤ 2 * i)
          case atStart => exact ⟨h1, h2, hG, hgb, hGr, hB, hQl, sup, q, v, hsb, hQ1, hq, hInv, hrt, htd, Nat.le_refl _⟩
          case round =>
            clear h1 h2 hG hgb hGr hB hQl hsb hQ1 hq hInv hrt htd
            obtain ⟨h1, h2, hG, hgb, hGr, hB, hQl, sup, q, v, hsb, hQ1, hq, hInv, hrt, htd, hgk⟩ := hrel
            cases q with
            | nil =>
              have hfin := Inv.final HF'.out hInv (by rw [HLN.out]; exact hrt)
              subst hfin
              obtain ⟨aoq, capq, rfl⟩ := hq.shape
              have a5 := hQ1.cell 0
              have c1 := h1.cell 0
              have c2 := h2.cell 0
              have f1 := h1.free 0
              have f2 := h2.free 0
              simp only [List.getElem?_cons_zero, natsV, List.map_nil, List.length_nil] at a5 c1 c2
              clear hq hQ1 hInv hrt htd hgk
              go_wp2_with fail
              have hlb : w.heap.size ≤ b2 := by omega
              have hwb' := hwb.symm
              have H1 := hid h1
              have H2 := hid h2
              have HG := hid hgb
              have HSB := hid hsb
              clear hG hGr hgb hsb h1 h2 a5
              go_region
              have k1 := (H1.out.set 0 (.slice (some ⟨gb, 0, none⟩) i i)).other ⟨b2, 0, none⟩ hwb.symm (.slice (some ⟨sb, 0, none⟩) i i)
              have k2 := (H2.out.other ⟨b1, 0, none⟩ hwb (.slice (some ⟨gb, 0, none⟩) i i)).set 0 (.slice (some ⟨sb, 0, none⟩) i i)
              have l1 := k1.cell 0
              have l2 := k2.cell 0
              simp only [List.set_cons_zero, List.getElem?_cons_zero] at l1 l2
              have hcE : Chg (fun k => k = b1 ∨ k = b2) wr ((wr.setCell ⟨b1, 0, none⟩ (.slice (some ⟨gb, 0, none⟩) i i)).setCell ⟨b2, 0, none⟩ (.slice (some ⟨sb, 0, none⟩) i i)).drew := (((Chg.refl _ wr).set (p := ⟨b1, 0, none⟩) (.inl rfl) _).set (p := ⟨b2, 0, none⟩) (.inr rfl) _).drew
              go_wp2_with fail
              (try simp only [Exit.inBlock, Exit.then])
              refine bodyPost_ret (results_cct rfl _ _ b1 b2 (.slice (some ⟨gb, 0, none⟩) i i) (.slice (some ⟨sb, 0, none⟩) i i) rfl rfl ?_ ?_) rfl ?_
              · simp [go_sem, l1]
              · simp [go_sem, l2]
              · exact jud_end H1.out H2.out HG.out HSB.out hB hle0 hlb (by omega) (by omega) (by omega) (by omega) hn HLN.out hcE
            | cons t q =>
              have hil := (hInv.que t (by simp)).1
              have hst := (hInv.que t (by simp)).2
              rw [HLN.out] at hil
              obtain ⟨e, he⟩ : ∃ e, L[t]? = some e := ⟨_, List.getElem?_eq_getElem (by rw [HLN.out]; omega)⟩
              have HE := hid he
              clear he
              have hsup := hInv.sound t e HE.out hst
              have hInv' := hInv.pop
              have htp := todo_pop sup t q
              have hq' : Que wr (Q1 + 1) 3 v (.int .i64 (t : Nat) :: natsV q) := hq
              obtain ⟨g, off, capq, rfl, hgB, hgl, hcl, hcm, hfc, hqn⟩ := hq'.front
              rw [natsV_len] at hcl hqn
              have hcut := fun w => que_cut g off q.length capq (by omega) w
              generalize (if 1 = capq then off else off + 1) = off' at *
              obtain ⟨aor, capr, hF0, hrow, hrb⟩ := hGr.row t e HE.out
              have a5 := hQ1.cell 0
              have f5 := hQ1.free 0
              have g1 := hG.cell 1
              simp only [List.getElem?_cons_succ, List.getElem?_cons_zero, natsV_len] at a5 g1
              have htI : (t : Int) < (i : Int) := by omega
              have hq1I : (0 : Int) < ((q.length + 1 : Nat) : Int) := by omega
              have hq1N : 0 < q.length + 1 := by omega
              clear hq hq'
              go_upto_region 23 with fail
              have hcQ : Chg (fun k => k = Q1) wr (wr.setCell ⟨Q1, 0, none⟩ (.slice (some ⟨g, off', none⟩) q.length (capq - 1))) := (Chg.refl (fun k => k = Q1) wr).set (p := ⟨Q1, 0, none⟩) rfl _
              have hQ2 := hQ1.set 0 (.slice (some ⟨g, off', none⟩) q.length (capq - 1))
              rw [List.set_cons_zero] at hQ2
              replace h1 := h1.chg hcQ (by omega)
              replace h2 := h2.chg hcQ (by omega)
              replace hG := hG.chg hcQ (by omega)
              replace hgb := hgb.chg hcQ (by omega)
              replace hsb := hsb.chg hcQ (by omega)
              replace hGr := hGr.chg hcQ (fun q _ b => by omega)
              replace hqn := hqn.chg hcQ (fun k hk e => by have := (hqn.lt k hk).1; omega)
              replace hrow := hrow.chg hcQ (fun b off q _ e => by have := hrb b off q; omega)
              replace hB := hB.trans (hcQ.toBelow hB.size (fun k hk => by omega))
              replace hQl : Q1 < (wr.setCell ⟨Q1, 0, none⟩ (.slice (some ⟨g, off', none⟩) q.length (capq - 1))).heap.size := hQ2.lt
              have hF0' : (wr.setCell ⟨Q1, 0, none⟩ (.slice (some ⟨g, off', none⟩) q.length (capq - 1))).cell? ⟨F, t, none⟩ = some (.slice aor (eff L L.length e.id).length capr) := by
                rw [← hF0]
                exact World.cell?_of_block (w := wr) (a := ⟨F, t, none⟩) (hcQ.block F (by have := hGr.hF; have := hQ1.lt; omega) (by show ¬ F = Q1; have := hGr.hF; omega))
              clear hF0 a5 f5 g1 hfc hcut hcQ hQ1 hgl
              generalize wr.setCell ⟨Q1, 0, none⟩ (.slice (some ⟨g, off', none⟩) q.length (capq - 1)) = wp at *
              have g1 := hG.cell 1
              simp only [List.getElem?_cons_succ, List.getElem?_cons_zero] at g1
              have hrl := eff_len L L.length e.id
              rw [HLN.out] at hrl
              obtain ⟨row, hrow0⟩ : ∃ r, eff L L.length e.id = r := ⟨_, rfl⟩
              rw [hrow0] at hF0' hrow
              rw [HLN.out] at hrow0
              have HROW := hid hrow0
              have hrlen : row.length ≤ i := by rw [← hrow0]; exact hrl
              clear hrow0 hrl
              go_wp2_with fail
              go_loopw [86] (fun s86 wi => ∃ m : Nat, s86 = .int .i64 m ∧ m ≤ row.length ∧ Blk wi b1 26 [.slice (some ⟨gb, 0, none⟩) i i] ∧ Blk wi b2 26 [.slice (some ⟨sb, 0, none⟩) i i] ∧ Blk wi b3 50 [.map (some mb), .slice (some ⟨F, 0, none⟩) i i] ∧
                Blk wi gb 4 (bools (goneL L R)) ∧ Gr wi L mb F A b3 ∧ SlV wi aor (natsV row) ∧ Below w.heap.size w wi ∧ Q1 < wi.heap.size ∧
                ∃ (sup' : List Bool) (q' : List Nat) (v' : Value), Blk wi sb 4 (bools sup') ∧ Blk wi Q1 55 [v'] ∧ Que wi (Q1 + 1) 3 v' (natsV q') ∧ Inv L R sup' q' (some t) ∧ Roots L R sup' i ∧ todo sup' q' + 1 ≤ gk ∧ (∀ x ∈ row.take m, at0 (goneL L R) x = true ∨ at0 sup' x = true)) (fun s86 _ => row.length - (intOf s86).toNat)
              case atStart => exact ⟨0, rfl, by omega, h1, h2, hG, hgb, hGr, hrow, hB, hQl, sup, q, _, hsb, hQ2, hqn, hInv', hrt, by omega, by simp⟩
              case round =>
                clear h1 h2 hG hgb hGr hrow hB hQl hsb hQ2 hqn hInv' hrt htd htp hInv hst g1 hF0'
                obtain ⟨m, rfl, hm', h1, h2, hG, hgb, hGr, hrow, hB, hQl, sup', q', v', hsb, hQ2, hqn, hInv', hrt, htd, hdn⟩ := hrel
                by_cases hml : m < row.length
                · obtain ⟨x, hx⟩ : ∃ x, row[m]? = some x := ⟨_, List.getElem?_eq_getElem hml⟩
                  obtain ⟨bx, ox, ex, hbx, cx⟩ := hrow.cell m (.int .i64 (x : Nat)) (by unfold natsV; rw [List.getElem?_map, hx]; rfl)
                  subst ex
                  have hxm : x ∈ eff L L.length e.id := by rw [HLN.out, HROW.out]; exact List.mem_of_getElem? hx
                  obtain ⟨hxi, d, hd, hdc⟩ := eff_lt hxm
                  rw [HLN.out] at hxi
                  have hTK : Hid (row.take (m + 1) = row.take m ++ [x]) := by unfold Hid; rw [List.take_add_one, hx]; rfl
                  have hsl : sup'.length = i := by rw [hInv'.len, HLN.out]
                  have hqn' := todo_que sup' q'
                  have HS1 := hid (sup1_any x i b1 gb b2 sb Q1 (Q1 + 1) (goneL L R) sup' v' q' wr h1 hgb h2 hsb hQ2 hqn hgoneL hsl hxi hn (by omega) (by omega) (by omega) (fun q => hgs q.symm) (by omega) (by omega) (by omega) (by omega))
                  have HI := hid (hInv'.step hd (fun hr => Sup.eff _ (ps_mem hd) hr _ hdc hsup))
                  have hts := todo_step (gone := goneL L R) (q := q') (i := x) (sup := sup') (by omega)
                  have HRT := hid (show Roots L R (stepS (goneL L R) sup' q' x).1 i from fun j d hj hd hdc => by
                    rcases hrt j d (by omega) hd hdc with r | r
                    · exact .inl r
                    · exact .inr (stepS_mono r))
                  have HDN := hid (show ∀ y ∈ row.take (m + 1), at0 (goneL L R) y = true ∨ at0 (stepS (goneL L R) sup' q' x).1 y = true from fun y hy => by
                    rw [hTK.out, List.mem_append, List.mem_singleton] at hy
                    rcases hy with hy | rfl
                    · rcases hdn y hy with r | r
                      · exact .inl r
                      · exact .inr (stepS_mono r)
                    · exact stepS_done (by omega))
                  generalize stepS (goneL L R) sup' q' x = r at *
                  clear hx hxm hd hdc hdn hrt hInv' hbx
                  go_wp2_with fail
                  refine HS1.out.mono ?_
                  rintro en w6 ⟨rfl, hsb6, ⟨v6, hQ6, hq6⟩, hc6⟩
                  clear cx
                  go_wp2_with fail
                  go_roundw
                  case rel => exact ⟨m + 1, by go_num, by omega, h1.chg hc6 (by omega), h2.chg hc6 (by omega), hG.chg hc6 (by omega), hgb.chg hc6 (by omega), hGr.chg hc6 (fun q _ b => by omega), hrow.chg hc6 (fun b off q _ e => by have := hrb b off q; omega), hB.trans (hc6.toBelow hB.size (fun q hq => by omega)), by have := hc6.size; omega, r.1, r.2, v6, hsb6, hQ6, hq6, HI.out, HRT.out, by omega, HDN.out⟩
                  case measure => simp [intOf]; omega
                · have hme : m = row.length := by omega
                  rw [hme, List.take_length] at hdn
                  have hInv2 := hInv'.done (fun d hd x hx => by
                    rw [HE.out] at hd
                    cases hd
                    rw [HLN.out, HROW.out] at hx
                    exact hdn x hx)
                  clear hInv' hdn hme
                  go_wp2_with fail
                  go_roundg (gk - 1)
                  case measure => omega
                  case rel => exact ⟨h1, h2, hG, hgb, hGr, hB, hQl, sup', q', v', hsb, hQ2, hqn, hInv2, hrt, by omega, by omega⟩
end Go.Proofs.YtgkgpfennlkcnaaDoor
