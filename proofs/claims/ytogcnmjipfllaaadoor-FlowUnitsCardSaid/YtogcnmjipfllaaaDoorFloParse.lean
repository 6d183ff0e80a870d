/- flow: Parse -/
import Derived.Test.YtogcnmjipfllaaaDoorFloDoor
import Derived.Deep.CutRange
import Derived.Deep.RegionWith
namespace Go.Proofs.YtogcnmjipfllaaaDoor
open Go.RowKit

theorem lex_any3 (s : ByteArray) (w : World) (hs : s.size ≤ 1000000) : Calls Tryd.prog 24 #[.string s] w fun e w' =>
    ∃ ao cap, e = .returned (.tuple #[.slice ao (lexL s.data.toList).1.length cap, .int .i64 (lexL s.data.toList).2.1, .int .i64 (lexL s.data.toList).2.2]) ∧ Toks w' ao (lexL s.data.toList).1 ∧ Below w.heap.size w w' ∧ (lexL s.data.toList).1.length ≤ cap ∧ cap ≤ maxLen ∧ (∀ b off, ao = some ⟨b, off, none⟩ → w.heap.size ≤ b) := by
  refine (lex_any s w hs).mono ?_
  rintro e w' ⟨v, rfl, hm⟩
  have hl := lexL_len s.data.toList
  obtain ⟨ao, cap, rfl, hsl, h0, h1, h2⟩ := hm.slv (by rw [toksCells_len]; unfold maxLen; omega)
  exact ⟨ao, cap, rfl, hsl, hm.below, h1, h2, h0⟩
theorem parse_world (w : World) : ∃ w0 : World, (((w.alloc (.cells #[.string ⟨#[]⟩, .int .i64 0, .slice none 0 0] 24)).alloc (.cells #[.int .i64 0] 28)).alloc (.cells #[.int .i64 0] 3)) = w0 ∧
    Blk w0 w.heap.size 24 [.string ⟨#[]⟩, .int .i64 0, .slice none 0 0] ∧ Blk w0 (w.heap.size + 1) 28 [.int .i64 0] ∧ Blk w0 (w.heap.size + 1 + 1) 3 [.int .i64 0] ∧ Below w.heap.size w w0 ∧ w0.heap.size = w.heap.size + 1 + 1 + 1 := by
  refine ⟨_, rfl, ((Blk.new w _ _).alloc _).alloc _, (blk_n _ _ _ _ (by simp)).alloc _, blk_n _ _ _ _ (by simp), ?_, by simp⟩
  exact ((below_alloc w _).alloc (by simp) _).alloc (by simp; omega) _
theorem wp_normal {P : Program} {c : Code} {K : Act → World → Prop} {Q0 : Exit → Act → World → Prop} {a : Act} {w : World} (h : c.wp P (fun e a w => match e with | .normal => K a w | _ => False) a w) : c.wp P (Exit.then K Q0) a w :=
  fun b k cs => let ⟨e, a', w', q, r⟩ := h b k cs; ⟨e, a', w', by cases e <;> first | exact q | exact q.elim, r⟩
set_option maxHeartbeats 4000000 in
set_option maxRecDepth 100000 in
theorem parse_any (s : ByteArray) (w : World) (hs : s.size ≤ 1000000) : Calls Tryd.prog 13 #[.string s] w (FParPost w s.data.toList) := by
  have hmf : ∀ (fn : Fn) (first cap : Array Value) (w : World), (Instr.makeFunc fn first cap).run Tryd.prog w = .ok (.func fn first cap) w := fun _ _ _ _ => rfl
  have HL := hid (fun w => lex_any3 s w hs)
  have HPh : Hid (parF s.data.toList = if (lexL s.data.toList).2.1 = 0 then (match flowF s.size (lexL s.data.toList).1 with | .ok f _ => (f, 0, 0) | .bad e n => (flw0, e, n)) else (flw0, (lexL s.data.toList).2.1, (lexL s.data.toList).2.2)) := by
    unfold Hid parF; rw [← Lib.size_eq s]; rfl
  have HTL := hid (lexL_len s.data.toList)
  have HSZ := hid (Lib.size_eq s)
  generalize hl : lexL s.data.toList = R at HL HPh HTL
  obtain ⟨T, x, n⟩ := R
  go_enter_defers Tryd.func13, Tryd.ntmps13
  go_wp2_with fail
  obtain ⟨w0, hw0, hob, heb, hab, hB, hsz⟩ := parse_world w
  rw [hw0]
  clear hw0
  refine (HL.out _).mono ?_
  rintro e w1 ⟨ao, cap, rfl, hT, hB1, hc1, hc2, hao⟩
  replace hob := hob.below hB1 hob.lt
  replace heb := heb.below hB1 heb.lt
  replace hab := hab.below hB1 hab.lt
  have hs1 : w.heap.size + 1 + 1 < w1.heap.size := by have := hB1.size; omega
  replace hB := hB.trans (hB1.mono hB.size)
  have hao2 : ∀ b off, ao = some ⟨b, off, none⟩ → w.heap.size + 1 + 1 < b := fun b off h => by have := hao b off h; omega
  clear hsz hB1 hao
  generalize h1 : w.heap.size = ob at hob heb hab hs1 hB hao2 ⊢
  generalize h2 : ob + 1 = eb at heb hab hs1 hao2 ⊢
  generalize h3 : eb + 1 = ab at hab hs1 hao2 ⊢
  have n4 : ob ≠ eb := by omega
  have n5 : ob ≠ ab := by omega
  have n6 : eb ≠ ab := by omega
  have n8 : ob ≤ eb := by omega
  have n9 : ob ≤ ab := by omega
  have n7 : ob < eb ∧ eb < ab := by omega
  have HS := hid h1
  clear h1 h2 h3
  have c1 := heb.cell 0
  have f1 := heb.free 0
  have c2 : ∀ v, (w1.setCell ⟨eb, 0, none⟩ v).cell? ⟨ab, 0, none⟩ = some (.int .i64 0) := fun v => (hab.other _ n6.symm v).cell 0
  have f2 : ∀ v, (w1.setCell ⟨eb, 0, none⟩ v).frozen? ⟨ab, 0, none⟩ = false := fun v => (hab.other _ n6.symm v).free 0
  have d2 := hab.cell 0
  have e2 := hab.free 0
  simp only [List.getElem?_cons_zero] at c1 c2 d2
  have hao3 : ∀ q, T ≠ [] → ao = some q → ob < q.block ∧ eb < q.block ∧ ab < q.block := by
    intro q hT0 hq
    cases hTT : T with
    | nil => exact absurd hTT hT0
    | cons t T2 =>
      rw [hTT] at hT
      obtain ⟨b, off, rfl, _⟩ := hT.get (i := 0) rfl
      cases hq
      have := hao2 b off rfl
      exact ⟨by show ob < b; omega, by show eb < b; omega, by show ab < b; omega⟩
  have HAO := hid hao3
  clear hao2 hao3
  cases hx : (x != 0) with
  | true =>
    have hR : parF s.data.toList = (flw0, x, n) := by rw [HPh.out]; exact if_neg (by simpa using hx)
    go_wp2_with fail
    clear hmf HL HPh hl hx c1 c2 f1 f2 d2 e2 HAO
    obtain ⟨W, hW⟩ : ∃ W : World, W = (w1.setCell ⟨eb, 0, none⟩ (.int .i64 x)).setCell ⟨ab, 0, none⟩ (.int .i64 n) := ⟨_, rfl⟩
    have k1 : Blk W ob 24 [.string ⟨#[]⟩, .int .i64 0, .slice none 0 0] := by rw [hW]; exact (hob.other _ n4 _).other _ n5 _
    have k2 : Blk W eb 28 [.int .i64 x] := by rw [hW]; exact (heb.set 0 _).other _ n6 _
    have k3 : Blk W ab 3 [.int .i64 n] := by rw [hW]; exact (hab.other _ n6.symm _).set 0 _
    have kB : Below ob w W := by rw [hW]; exact (hB.setCell n8 _).setCell n9 _
    rw [← hW]
    clear hW hob heb hab
    have d1 := k1.cell 0
    have d11 := k1.cell 1
    have d12 := k1.cell 2
    have d2 := k2.cell 0
    have d3 := k3.cell 0
    have g1 := k1.free 0
    have g11 := k1.free 1
    have g12 := k1.free 2
    have g2 := k2.free 0
    have g3 := k3.free 0
    simp only [List.getElem?_cons_zero, List.getElem?_cons_succ] at d1 d11 d12 d2 d3
    go_region
    go_wp2_with fail
    have m1 := ((((((k1.set 0 (.string ⟨#[]⟩)).set 1 (.int .i64 0)).set 2 (.slice none 0 0)).other ⟨eb, 0, none⟩ n4 (.int .i64 x)).other ⟨ab, 0, none⟩ n5 (.int .i64 n)).drew)
    have m2 := ((((((k2.other ⟨ob, 0, none⟩ n4.symm (.string ⟨#[]⟩)).other ⟨ob, 1, none⟩ n4.symm (.int .i64 0)).other ⟨ob, 2, none⟩ n4.symm (.slice none 0 0)).set 0 (.int .i64 x)).other ⟨ab, 0, none⟩ n6 (.int .i64 n)).drew).cell 0
    have m3 := ((((((k3.other ⟨ob, 0, none⟩ n5.symm (.string ⟨#[]⟩)).other ⟨ob, 1, none⟩ n5.symm (.int .i64 0)).other ⟨ob, 2, none⟩ n5.symm (.slice none 0 0)).other ⟨eb, 0, none⟩ n6.symm (.int .i64 x)).set 0 (.int .i64 n)).drew).cell 0
    simp only [List.set_cons_zero, List.getElem?_cons_zero] at m2 m3
    refine ⟨_, results_row_cells rfl _ _ ob eb ab #[.string ⟨#[]⟩, .int .i64 0, .slice none 0 0] (.int .i64 x) (.int .i64 n) _ rfl rfl rfl m1 Tryd.underlying24 rfl (by kernel_rfl) (by simp [go_sem, m2]) (by simp [go_sem, m3]), ?_⟩
    refine ⟨_, by rw [hR]; rfl, ?_⟩
    rw [hR, HS.out]
    exact MineN.start ((((((kB.setCell (Nat.le_refl _) _).setCell (Nat.le_refl _) _).setCell (Nat.le_refl _) _).setCell n8 _).setCell n9 _).drew) (by have := kB.size; have := HS.out; simp; omega)
  | false =>
    have hx0 : Hid (x = 0) := by simpa [Hid] using hx
    replace HPh := hid (HPh.out.trans (if_pos hx0.out))
    clear hl
    go_wp2_with fail
    obtain ⟨W, hW⟩ : ∃ W : World, W = (((w1.setCell ⟨eb, 0, none⟩ (.int .i64 x)).setCell ⟨ab, 0, none⟩ (.int .i64 n)).alloc (.cells #[.slice ao T.length cap, .int .i64 s.size, .slice none 0 0, .string ⟨#[]⟩, .int .i64 0, .slice none 0 0] 70)) := ⟨_, rfl⟩
    rw [← hW]
    have hC : Chg (fun k => k = eb ∨ k = ab) w1 W := by
      rw [hW]
      exact (((Chg.refl (fun k => k = eb ∨ k = ab) w1).set (p := ⟨eb, 0, none⟩) (.inl rfl) _).set (p := ⟨ab, 0, none⟩) (.inr rfl) _).alloc _
    have hPB : PB W w1.heap.size ⟨s.size, .slice none 0 0, ⟨#[]⟩, 0, .slice none 0 0⟩ T := by
      refine ⟨ao, cap, ?_, ?_, hc1, hc2, ?_⟩
      · rw [hW]; exact blk_n _ _ _ _ (by simp [World.setCell])
      · cases hTT : T with
        | nil => exact ⟨by simp [toksCells], by simp [toksCells]⟩
        | cons a T2 =>
          rw [hTT] at hT
          refine SlV.chg hT hC (fun b off h hb => ?_)
          have := HAO.out ⟨b, off, none⟩ (by rw [hTT]; simp) h
          simp only at this
          omega
      · intro hTne
        cases hTT : T with
        | nil => exact absurd hTT hTne
        | cons a T2 =>
          rw [hTT] at hT
          obtain ⟨b, off, rfl, hb, _⟩ := hT.get (i := 0) rfl
          exact ⟨b, off, rfl, hb⟩
    have k1 : Blk W ob 24 [.string ⟨#[]⟩, .int .i64 0, .slice none 0 0] := hob.chg hC (by omega)
    have k2 : Blk W eb 28 [.int .i64 x] := by rw [hW]; exact ((heb.set 0 _).other _ n6 _).alloc _
    have k3 : Blk W ab 3 [.int .i64 n] := by rw [hW]; exact ((hab.other _ n6.symm _).set 0 _).alloc _
    have kB : Below ob w W := hB.trans (hC.toBelow (by rw [← HS.out]; exact hB.size) (by rintro q (rfl | rfl) <;> assumption))
    have hsz : w1.heap.size ≤ W.heap.size := hC.size
    have HX := hid hs1
    clear hW hob heb hab hC hT c1 c2 d2 e2 f1 f2 hB HL hs1
    generalize w1.heap.size = pb at *
    have hfl := hid (flow_any pb s.size T W hPB (by have h : T.length ≤ 5000 := HTL.out; omega))
    obtain ⟨fr, hfr⟩ : ∃ fr, flowF s.size T = fr := ⟨_, rfl⟩
    rw [hfr] at hfl HPh
    unfold pT at hfl
    refine (hfl.out).mono ?_
    clear hfl hfr hPB
    cases fr with
    | bad y m =>
      rintro e w2 ⟨rfl, hC2⟩
      exact door_bad HPh.out rfl rfl rfl (k1.chg hC2 (by have := HX.out; omega)) ⟨_, k2.chg hC2 (by have := HX.out; omega)⟩ ⟨_, k3.chg hC2 (by have := HX.out; omega)⟩ n4 n5 n6 (by rw [HS.out]; exact Nat.le_refl _) (by rw [HS.out]; exact n8) (by rw [HS.out]; exact n9)
        (by rw [HS.out]; exact kB.trans (hC2.toBelow (by rw [← HS.out]; exact kB.size) (by rintro q rfl; have := HX.out; omega)))
    | ok f r =>
      rintro e w2 ⟨rfl, nv, sv, hP2, hown, hC2, h40⟩
      obtain ⟨so, sc, rfl, -⟩ := own_rowZ hown (by unfold maxLen; omega)
      have k1' := k1.chg hC2 (by have := HX.out; omega)
      have k2' := k2.chg hC2 (by have := HX.out; omega)
      have k3' := k3.chg hC2 (by have := HX.out; omega)
      have kB' : Below ob w w2 := kB.trans (hC2.toBelow (by rw [← HS.out]; exact kB.size) (by rintro q rfl; have := HX.out; omega))
      obtain ⟨ao2, cap2, hbx⟩ := hP2.blk
      have m3 := hbx.cell 3
      have m4 := hbx.cell 4
      have m5 := hbx.cell 5
      have c0 := k1'.cell 0
      have c01 := k1'.cell 1
      have c02 := k1'.cell 2
      have f0 := k1'.free 0
      have f01 := k1'.free 1
      have f02 := k1'.free 2
      have c1 := k2'.cell 0
      have f1 := k2'.free 0
      have c2 := k3'.cell 0
      have f2 := k3'.free 0
      simp only [List.getElem?_cons_zero, List.getElem?_cons_succ] at m3 m4 m5 c0 c01 c02 c1 c2
      have HK := hid (And.intro k1' (And.intro k2' (And.intro k3' (And.intro kB' hown))))
      have hbo : ob ≠ pb ∧ eb ≠ pb ∧ ab ≠ pb := by have := HX.out; omega
      obtain ⟨b1, b2, b3⟩ := hbo
      clear k1 k2 k3 kB k1' k2' k3' kB' hbx hP2 hC2 hown
      go_wp2_with fail
      obtain ⟨k1', k2', k3', kB', hown⟩ := HK.out
      show Leaves Tryd.prog Tryd.f13 _ (FParPost w s.data.toList) _ .returning _
      refine door_ok HPh.out rfl rfl rfl (((((k1'.set 0 _).set 1 _).set 2 _).other _ n4 _).other _ n5 _) (((((k2'.other _ n4.symm _).other _ n4.symm _).other _ n4.symm _).set 0 _).other _ n6 _) (((((k3'.other _ n5.symm _).other _ n5.symm _).other _ n5.symm _).other _ n6.symm _).set 0 _) ?_ (B := W.heap.size) ?_ ?_
      · rw [HS.out]
        exact ((((kB'.setCell (Nat.le_refl _) _).setCell (Nat.le_refl _) _).setCell (Nat.le_refl _) _).setCell n8 _).setCell n9 _
      · refine ownsRow_chgN (S := fun k => k = ob ∨ k = eb ∨ k = ab) hown ((((((Chg.refl (fun k => k = ob ∨ k = eb ∨ k = ab) w2).set (p := ⟨ob, 0, none⟩) (.inl rfl) _).set (p := ⟨ob, 1, none⟩) (.inl rfl) _).set (p := ⟨ob, 2, none⟩) (.inl rfl) _).set (p := ⟨eb, 0, none⟩) (.inr (.inl rfl)) _).set (p := ⟨ab, 0, none⟩) (.inr (.inr rfl)) _) (fun k hk h => ?_)
        have := (hown.lt k hk).1
        have := HX.out
        omega
      · have := HX.out
        have := HS.out
        omega
end Go.Proofs.YtogcnmjipfllaaaDoor
