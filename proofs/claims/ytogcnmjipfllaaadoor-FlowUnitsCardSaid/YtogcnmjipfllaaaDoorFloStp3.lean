/- flow: the parser: step, at a symbol -/
import Derived.Test.YtogcnmjipfllaaaDoorFloStp2
namespace Go.Proofs.YtogcnmjipfllaaaDoor
open Go.RowKit

theorem stepF_sym {en : Nat} {N : List ByteArray} {S : List Stp} {ts : List Tok} (h : wrdOp ts = 0) : stepF en N S ts =
    (opdF en N S false ts).bind fun a r => if symOp r = 0 then failR en 5 r else (opdF en N S false r.tail).bind fun b r2 => .ok ⟨symOp r, a, b, 0⟩ r2 := by
  unfold stepF
  exact if_pos h
theorem symOp_sym {ts : List Tok} (h : symOp ts ≠ 0) : (opr (symOp ts)).sym ≠ ⟨#[]⟩ := by
  cases ts with
  | nil => exact absurd rfl h
  | cons t r =>
    simp only [symOp] at h ⊢
    split at h
    · rename_i hk
      rw [if_pos hk]
      unfold symN at h ⊢
      repeat (split at h; (rename_i hb; simp only [hb]; decide))
      exact absurd rfl h
    · exact absurd rfl h
set_option maxHeartbeats 4000000 in
set_option maxRecDepth 100000 in
theorem step_sym (pb : Nat) (p : PT) (ts : List Tok) (N : List ByteArray) (S : List Stp) (w : World) (hP : PB w pb p ts) (hl : ts.length ≤ 1000000) (hNS : NS w pb p N S) (hw0 : wrdOp ts = 0) :
    Calls Tryd.prog 42 #[pT pb] w (RPost pb p w Stp.v (stepF p.en N S ts)) := by
  have hpl := hP.lt
  have HOP := hid (fun w => operators_is w)
  have HP := hid (fun (w' : World) (hB : Below w.heap.size w w') => hP.below hB)
  have HNS := hid (fun (w' : World) (hC : Chg (fun b => b = pb) w w') => hNS.chg hC)
  have HSEE := hid (fun (k : Nat) (h1 : 1 ≤ k) (h2 : k ≤ 10) (hw : (opr k).word ≠ ⟨#[]⟩) (w' : World) (hB : Below w.heap.size w w') => (by
    have h := sees_is pb 1 (opr k).word.data.toList p ts w' (hP.below hB) (sees_wrd h1 h2 hw ts)
    rw [hw0, show decide (0 = k) = false from decide_eq_false (by omega)] at h
    exact h : Calls Tryd.prog 37 #[pT pb, .int .i64 1, .string (opr k).word] w' fun e w'' => e = .returned (.bool false) ∧ w' = w''))
  obtain ⟨RS, hRS⟩ : ∃ RS, stepF p.en N S ts = RS := ⟨_, rfl⟩
  have HRS := hid (hRS.symm.trans (stepF_sym hw0))
  rw [hRS]
  clear hRS hw0 hP hNS
  unfold pT at HSEE ⊢
  go_enter Tryd.func42, Tryd.ntmps42
  go_wp2_with fail
  refine (HOP.out _).mono ?_
  rintro e w1 ⟨rfl, rfl⟩
  have hsb := (Blk.new w #[.int .i64 0, .int .i64 0, .int .i64 0, .int .i64 0] 32).alloc (.map oEs 10)
  have hm0 : ((w.alloc (.cells #[.int .i64 0, .int .i64 0, .int .i64 0, .int .i64 0] 32)).alloc (.map oEs 10)).heap[(w.alloc (.cells #[.int .i64 0, .int .i64 0, .int .i64 0, .int .i64 0] 32)).heap.size]? = some (.map oEs 10) := heap_alloc_new _ _
  have hB1 := (below_alloc w (.cells #[.int .i64 0, .int .i64 0, .int .i64 0, .int .i64 0] 32)).alloc (by simp) (.map oEs 10)
  generalize (w.alloc (.cells #[.int .i64 0, .int .i64 0, .int .i64 0, .int .i64 0] 32)).alloc (.map oEs 10) = w1 at *
  have hsr : w.heap.size ≠ w1.heap.size := by have := hsb.lt; omega
  generalize hbm : (w.alloc (.cells #[.int .i64 0, .int .i64 0, .int .i64 0, .int .i64 0] 32)).heap.size = bm at *
  clear hbm
  go_wp2_with (at_range; refine wpl_range rfl _ 54 rfl 3 52 Tryd.ulOps bm 10 oEs rfl hm0 oEs_born ?_; intro w6 hI hB6; go_frame)
  replace hsb := hsb.below hB6 hsb.lt
  have hrb : w.heap.size ≤ w1.heap.size := hB1.size
  replace hB1 := hB1.trans (hB6.mono hB1.size)
  generalize w1.heap.size = rb at *
  clear hm0 hB6
  go_loopw [3] (fun s3 wq => ∃ (seen : Array Nat), Iter wq rb bm oEs seen ∧ Below w.heap.size w wq ∧ Blk wq w.heap.size 32 [.int .i64 0, .int .i64 0, .int .i64 0, .int .i64 0]) (fun _ wq => wq.rangeLeft bm rb)
  case atStart => exact ⟨#[], hI, hB1, hsb⟩
  case round =>
    clear hB1 hI hsb
    obtain ⟨wk, hwk⟩ : ∃ wk : World, wk = wr := ⟨_, rfl⟩
    subst hwk
    obtain ⟨seen, hI, hB, hsb⟩ := hrel
    have hlf := hI.left
    go_wp2_with (at_next; refine wpl_next rfl _ rfl rb bm oEs seen rfl hI oEs_nodup ?_ ?_)
    · intro h0
      clear hI hlf HSEE h0
      obtain ⟨ro, hop⟩ : ∃ ro, opdF p.en N S false ts = ro := ⟨_, rfl⟩
      have hcl := hid (opd_any pb false p ts N S wk (HP.out _ hB) hl (HNS.out _ (Chg.ofBelow hB)))
      rw [hop] at hcl HRS
      have HOPD := hid hop
      clear hop
      unfold pT at hcl
      go_wp2_with fail
      refine (hcl.out).mono ?_
      clear hcl
      cases ro with
      | bad x m =>
        rintro e w9 ⟨rfl, hC9⟩
        refine ⟨rfl, ?_⟩
        rw [HRS.out]
        exact ⟨rfl, (Chg.ofBelow hB).trans hC9⟩
      | ok a r =>
        rintro e w9 ⟨rfl, hP9, hC9⟩
        rw [PR.bind_ok] at HRS
        have hrl : r.length ≤ 1000000 := by have := opdF_len HOPD.out; omega
        have hC := (Chg.ofBelow (S := fun b => b = pb) hB).trans hC9
        have hso := hsb.chg hC9 (by omega)
        clear HOPD hC9 hB hsb hl
        go_wp2_with fail
        refine (HOP.out _).mono ?_
        rintro e w10 ⟨rfl, rfl⟩
        have hb8 := (Blk.new w9 #[.int .i64 0, .int .i64 a, .int .i64 0, .int .i64 0] 32).alloc (.map oEs 10)
        have hm0 : ((w9.alloc (.cells #[.int .i64 0, .int .i64 a, .int .i64 0, .int .i64 0] 32)).alloc (.map oEs 10)).heap[(w9.alloc (.cells #[.int .i64 0, .int .i64 a, .int .i64 0, .int .i64 0] 32)).heap.size]? = some (.map oEs 10) := heap_alloc_new _ _
        have hB1 := (below_alloc w9 (.cells #[.int .i64 0, .int .i64 a, .int .i64 0, .int .i64 0] 32)).alloc (by simp) (.map oEs 10)
        have hbms : (w9.alloc (.cells #[.int .i64 0, .int .i64 a, .int .i64 0, .int .i64 0] 32)).heap.size = w9.heap.size + 1 := by simp
        generalize (w9.alloc (.cells #[.int .i64 0, .int .i64 a, .int .i64 0, .int .i64 0] 32)).alloc (.map oEs 10) = w10 at *
        generalize (w9.alloc (.cells #[.int .i64 0, .int .i64 a, .int .i64 0, .int .i64 0] 32)).heap.size = bm2 at *
        replace hbms := hid hbms
        go_wp2_with (at_range; refine wpl_range rfl _ 54 rfl 3 52 Tryd.ulOps bm2 10 oEs rfl hm0 oEs_born ?_; intro w11 hI hB11; go_frame)
        have hsz : w9.heap.size < w10.heap.size := hb8.lt
        have hszb : bm2 < w10.heap.size := (Array.getElem?_eq_some_iff.1 hm0).1
        have hwz := hso.lt
        have hpz := hP9.lt
        have hwsz := hC.size
        replace hb8 := hb8.below hB11 hb8.lt
        replace hB1 := hB1.trans (hB11.mono hB1.size)
        replace hso := hso.below hB1 hso.lt
        replace hP9 := hP9.below hB1
        replace hC := hC.trans (Chg.ofBelow hB1)
        have HNE := hid (show w9.heap.size < w10.heap.size ∧ bm2 = w9.heap.size + 1 ∧ w.heap.size < w9.heap.size ∧ pb < w.heap.size ∧ bm2 < w10.heap.size from ⟨hsz, hbms.out, hwz, by omega, hszb⟩)
        clear hB1 hB11 hm0 hsz hbms hwz hpz hwsz hszb
        generalize w9.heap.size = b8 at *
        generalize w10.heap.size = rb2 at *
        obtain ⟨sn, hsn⟩ : ∃ sn, symOp r = sn := ⟨_, rfl⟩
        have HSN := hid (show sn ≤ 10 by rw [← hsn]; exact symOp_le r)
        have HSS := hid (fun h : sn ≠ 0 => (by rw [← hsn] at h ⊢; exact symOp_sym h : (opr sn).sym ≠ ⟨#[]⟩))
        have HSEE := hid (fun (k : Nat) (h1 : 1 ≤ k) (h2 : k ≤ 10) (hw : (opr k).sym ≠ ⟨#[]⟩) (w' : World) (hP : PB w' pb p r) => (by
          have h := sees_is pb 4 (opr k).sym.data.toList p r w' hP (sees_sym h1 h2 hw r)
          rw [hsn] at h
          exact h : Calls Tryd.prog 37 #[pT pb, .int .i64 4, .string (opr k).sym] w' fun e w'' => e = .returned (.bool (decide (sn = k))) ∧ w' = w''))
        rw [hsn] at HRS
        unfold pT at HSEE
        go_loopw [9] (fun s9 wq => ∃ (seen : Array Nat) (o : Int), Iter wq rb2 bm2 oEs seen ∧ Hid (o = if sn ≠ 0 ∧ seen.contains (sn - 1) = true then (sn : Int) else 0) ∧ PB wq pb p r ∧ Blk wq w.heap.size 32 [.int .i64 0, .int .i64 0, .int .i64 0, .int .i64 0] ∧ Blk wq b8 32 [.int .i64 o, .int .i64 a, .int .i64 0, .int .i64 0] ∧ Chg (fun b => b = pb) w wq) (fun _ wq => wq.rangeLeft bm2 rb2)
        case atStart => exact ⟨#[], 0, hI, hid (by simp), hP9, hso, hb8, hC⟩
        case round =>
          clear hI hP9 hso hb8 hC
          obtain ⟨wq, hwq⟩ : ∃ wq : World, wq = wr := ⟨_, rfl⟩
          subst hwq
          obtain ⟨seen, o, hI, HO, hP, hso, hb8, hC⟩ := hrel
          have hlf := hI.left
          have n1 : pb ≠ rb2 := by have := HNE.out; omega
          have n2 : w.heap.size ≠ rb2 := by have := HNE.out; omega
          have n3 : b8 ≠ rb2 := by have := HNE.out; omega
          have n4 : w.heap.size ≤ rb2 := by have := HNE.out; omega
          have n5 : w.heap.size ≤ b8 := by have := HNE.out; omega
          have n6 : w.heap.size ≠ b8 := by have := HNE.out; omega
          have n7 : pb < b8 := by have := HNE.out; omega
          have n8 : b8 ≠ bm2 := by have := HNE.out; omega
          go_wp2_with (at_next; refine wpl_next rfl _ rfl rb2 bm2 oEs seen rfl hI oEs_nodup ?_ ?_)
          · intro h0
            have hall := all_seen oEs seen (by rw [h0]; rfl)
            have HO2 : Hid (o = sn) := by
              unfold Hid
              rw [HO.out]
              by_cases hz : sn = 0
              · rw [if_neg (by rintro ⟨q, -⟩; exact q hz), hz]; rfl
              · exact if_pos ⟨hz, hall _ (oEs_has (by omega) HSN.out)⟩
            clear hall hI hlf HSEE h0 HO
            by_cases hz : sn = 0
            · replace HRS := hid (HRS.out.trans (if_pos hz))
              have ho0 : o = 0 := by rw [HO2.out, hz]; rfl
              subst ho0
              have c8 := hb8.cell 0
              simp only [List.getElem?_cons_zero] at c8
              have HF := hid (fail_is pb 5 p r wq hP hrl rfl)
              clear hz HO2 hb8 hso hP hsn
              unfold pT at HF
              go_wp2_with fail
              refine (HF.out).mono ?_
              rintro e w12 ⟨rfl, rfl⟩
              refine ⟨rfl, ?_⟩
              rw [HRS.out]
              exact ⟨rfl, hC⟩
            · replace HRS := hid (HRS.out.trans (if_neg hz))
              obtain ⟨t, r', rfl⟩ : ∃ t r', r = t :: r' := by
                cases r with
                | nil => exact absurd hsn.symm hz
                | cons t r' => exact ⟨t, r', rfl⟩
              simp only [List.tail_cons] at HRS
              have ho0 : o ≠ 0 := by rw [HO2.out]; omega
              have c8 := hb8.cell 0
              simp only [List.getElem?_cons_zero] at c8
              have HTK := hid (take_any pb p t r' wq hP)
              have HB8 := hid hb8
              have HSO := hid hso
              have HC := hid hC
              have hrl' : r'.length ≤ 1000000 := by simp at hrl; omega
              clear hb8 hso hP hsn hC hz
              unfold pT at HTK
              go_wp2_with fail
              refine (HTK.out).mono ?_
              rintro e w12 ⟨rfl, hP12, hC12⟩
              have HC12 := hid (HC.out.trans hC12)
              obtain ⟨ro, hop⟩ : ∃ ro, opdF p.en N S false r' = ro := ⟨_, rfl⟩
              have hcl := hid (opd_any pb false p r' N S w12 hP12 hrl' (HNS.out _ HC12.out))
              rw [hop] at hcl HRS
              have HB12 := hid (HB8.out.chg hC12 (by omega))
              have HS12 := hid (HSO.out.chg hC12 (by omega))
              clear hop HTK hP12 hC12 c8
              unfold pT at hcl
              unfold tokC
              go_wp2_with fail
              refine (hcl.out).mono ?_
              clear hcl
              cases ro with
              | bad x m =>
                rintro e w13 ⟨rfl, hC13⟩
                refine ⟨rfl, ?_⟩
                rw [HRS.out]
                exact ⟨rfl, HC12.out.trans hC13⟩
              | ok b r2 =>
                rintro e w13 ⟨rfl, hP13, hC13⟩
                rw [PR.bind_ok] at HRS
                have h5 := HB12.out.chg hC13 (by omega)
                have h0 := HS12.out.chg hC13 (by omega)
                have h5' := h5.set 2 (.int .i64 b)
                have h0' := h0.other ⟨b8, 2, none⟩ n6 (.int .i64 b)
                have g2 := h5.free 2
                have e2 := h5.cell 2
                have d0 := h5'.cell 0
                have d1 := h5'.cell 1
                have d2 := h5'.cell 2
                have d3 := h5'.cell 3
                have k0 := h0.cell 0
                have k1 := h0.cell 1
                have k2 := h0.cell 2
                have k3 := h0.cell 3
                have l0 := h0.free 0
                have l1 := h0.free 1
                have l2 := h0.free 2
                have l3 := h0.free 3
                have f0 := h0'.free 0
                have f1 := h0'.free 1
                have f2 := h0'.free 2
                have f3 := h0'.free 3
                simp only [List.getElem?_cons_zero, List.getElem?_cons_succ, List.set_cons_succ, List.set_cons_zero] at d0 d1 d2 d3 e2 k0 k1 k2 k3
                have H13 := hid (And.intro hP13 (And.intro hC13 h0'))
                clear hP13 hC13 h5 h5' h0 h0'
                go_wp2_with fail
                obtain ⟨hP13, hC13, h0'⟩ := H13.out
                refine bodyPost_ret (results_cell_row rfl _ _ w.heap.size 32 #[.int .i64 o, .int .i64 a, .int .i64 b, .int .i64 0] (0, 0) _ rfl ((((h0'.set 0 _).set 1 _).set 2 _).set 3 _) Tryd.underlying32 rfl (by kernel_rfl)) rfl ?_
                rw [HRS.out]
                refine ⟨by rw [HO2.out]; rfl, ?_, ?_⟩
                · exact hP13.chg (S := fun q => q = b8 ∨ q = w.heap.size) (((((((Chg.refl (fun q => q = b8 ∨ q = w.heap.size) w13).set (p := ⟨b8, 2, none⟩) (.inl rfl) _).set (p := ⟨w.heap.size, 0, none⟩) (.inr rfl) _).set (p := ⟨w.heap.size, 1, none⟩) (.inr rfl) _).set (p := ⟨w.heap.size, 2, none⟩) (.inr rfl) _).set (p := ⟨w.heap.size, 3, none⟩) (.inr rfl) _)) (fun q hq h => by have := HNE.out; omega)
                · exact Chg.ofNew ((((((((HC12.out.trans hC13).mono (fun q _ h => .inl h)).set (p := ⟨b8, 2, none⟩) (.inr n5) _).set (p := ⟨w.heap.size, 0, none⟩) (.inr (Nat.le_refl _)) _).set (p := ⟨w.heap.size, 1, none⟩) (.inr (Nat.le_refl _)) _).set (p := ⟨w.heap.size, 2, none⟩) (.inr (Nat.le_refl _)) _).set (p := ⟨w.heap.size, 3, none⟩) (.inr (Nat.le_refl _)) _))
          · intro e w7 he hI7 hC7 hen
            replace he : e ∈ (leftOf oEs seen).toList := by simpa using he
            have hsh := left_shrinks oEs seen e he
            obtain ⟨hmem, -⟩ := mem_left he
            obtain ⟨k, hk1, hk2, rfl⟩ := oEs_mem hmem
            simp only at hI7 hsh hen
            have HK := hid (And.intro hk1 hk2)
            have hP7 : PB w7 pb p r := hP.chg hC7 (fun q hq h => by omega)
            have hso7 := hso.chg hC7 n2
            have hb7 := hb8.chg hC7 n3
            have hCC : Chg (fun b => b = pb) w w7 := Chg.ofNew ((hC.mono (fun q _ h => .inl h)).trans (hC7.mono (fun q _ h => .inr (by omega))))
            have hPo := hP7.below (below_alloc w7 (.cells #[.string (opr k).word, .string (opr k).sym, .int .i64 (opr k).k, .bool (opr k).t, .bool (opr k).m, .int .i64 (opr k).x] 52))
            have hCo := hCC.alloc (.cells #[.string (opr k).word, .string (opr k).sym, .int .i64 (opr k).k, .bool (opr k).t, .bool (opr k).m, .int .i64 (opr k).x] 52)
            have hIo : Iter (w7.alloc (.cells #[.string (opr k).word, .string (opr k).sym, .int .i64 (opr k).k, .bool (opr k).t, .bool (opr k).m, .int .i64 (opr k).x] 52)) rb2 bm2 oEs (seen.push (k - 1)) := hI7.chg (S := fun _ => False) (Chg.ofBelow (below_alloc _ _)) (fun h => h) (fun h => h)
            have hso' := hso7.alloc (.cells #[.string (opr k).word, .string (opr k).sym, .int .i64 (opr k).k, .bool (opr k).t, .bool (opr k).m, .int .i64 (opr k).x] 52)
            have hb8' := hb7.alloc (.cells #[.string (opr k).word, .string (opr k).sym, .int .i64 (opr k).k, .bool (opr k).t, .bool (opr k).m, .int .i64 (opr k).x] 52)
            have hlfo := hIo.left
            have hSE := hid (HSEE.out k hk1 hk2)
            have HSS2 := hid (fun h : sn = k => (by have := HSS.out (by omega); rw [h] at this; exact this : (opr k).sym ≠ ⟨#[]⟩))
            unfold Opr.v at hen
            clear he hmem hI hk1 hk2 HSEE HRS HNS hP hso hb8 hC hP7 hso7 hb7 hCC hI7 HSS
            generalize (opr k).word = ow at *
            generalize (opr k).sym = os at *
            generalize (opr k).k = ok at *
            generalize (opr k).t = ot at *
            generalize (opr k).m = om at *
            generalize (opr k).x = ox at *
            have HPUSH : sn ≠ k → o = if sn ≠ 0 ∧ (seen.push (k - 1)).contains (sn - 1) = true then (sn : Int) else 0 := by
              intro hne
              rw [HO.out]
              by_cases hz : sn = 0
              · rw [if_neg (by rintro ⟨q, -⟩; exact q hz), if_neg (by rintro ⟨q, -⟩; exact q hz)]
              · rw [Array.contains_push, show (sn - 1 == k - 1) = false by have := HK.out; simp; omega, Bool.or_false]
            replace HPUSH := hid HPUSH
            by_cases hem : os = ⟨#[]⟩
            · have hE1 : os.toList.isEmpty = true := by rw [hem, ByteArray.toList_eq]; rfl
              have hE2 : os.toList = [] := by rw [hem, ByteArray.toList_eq]
              have hE3 := hid (HPUSH.out (fun h => HSS2.out h hem))
              clear hSE hem HSS2 HPUSH
              have HB := hid (And.intro hPo (And.intro hso' (And.intro hb8' hCo)))
              clear hPo hso' hb8' hCo
              go_wp2_with fail
              go_roundw
              case rel => exact ⟨_, o, hIo, hE3, HB.out⟩
              case measure => rw [hlfo, hlf]; exact hsh
            · have hE0 : os.toList ≠ [] := by
                rw [ByteArray.toList_eq]
                intro q
                exact hem (ByteArray.ext (Array.toList_inj.1 q))
              have hE1 : os.toList.isEmpty = false := by simpa using hE0
              have hSE2 := hSE.out hem _ hPo
              have HB := hid (And.intro hPo (And.intro hso' (And.intro hb8' hCo)))
              by_cases hsk : sn = k
              · rw [show decide (sn = k) = true from decide_eq_true hsk] at hSE2
                replace hSE2 := hid hSE2
                have c8 := hb8'.cell 0
                have f8 := hb8'.free 0
                simp only [List.getElem?_cons_zero] at c8
                have hE3 : Hid ((k : Int) = if sn ≠ 0 ∧ (seen.push (k - 1)).contains (sn - 1) = true then (sn : Int) else 0) := by
                  unfold Hid
                  rw [if_pos ⟨by have := HK.out; omega, by rw [Array.contains_push, hsk]; simp⟩, hsk]
                clear hSE hPo hso' hb8' hCo hem HPUSH HSS2 hsk
                go_wp2_with fail
                refine (hSE2.out).mono ?_
                rintro e w8 ⟨rfl, rfl⟩
                go_wp2_with fail
                go_roundw
                case rel =>
                  obtain ⟨q1, q2, q3, q4⟩ := HB.out
                  refine ⟨_, k, hIo.chg (S := fun q => q = b8) ((Chg.refl (fun q => q = b8) _).set (p := ⟨b8, 0, none⟩) rfl _) (fun h => n3 h.symm) (fun h => n8 h.symm), hE3, q1.chg (S := fun q => q = b8) ((Chg.refl (fun q => q = b8) _).set (p := ⟨b8, 0, none⟩) rfl _) (fun q hq h => by omega), q2.other _ n6 _, q3.set 0 _, ?_⟩
                  exact Chg.ofNew ((q4.mono (fun q _ h => .inl h)).set (p := ⟨b8, 0, none⟩) (.inr n5) _)
                case measure =>
                  have hIs := hIo.chg (S := fun q => q = b8) ((Chg.refl (fun q => q = b8) _).set (p := ⟨b8, 0, none⟩) rfl (.int .i64 k)) (fun h => n3 h.symm) (fun h => n8 h.symm)
                  rw [hIs.left, hlf]; exact hsh
              · rw [show decide (sn = k) = false from decide_eq_false hsk] at hSE2
                replace hSE2 := hid hSE2
                have hE3 := hid (HPUSH.out hsk)
                clear hSE hPo hso' hb8' hCo hem HPUSH HSS2 hsk
                go_wp2_with fail
                refine (hSE2.out).mono ?_
                rintro e w8 ⟨rfl, rfl⟩
                go_wp2_with fail
                go_roundw
                case rel => exact ⟨_, o, hIo, hE3, HB.out⟩
                case measure => rw [hlfo, hlf]; exact hsh
    · intro e w7 he hI7 hC7 hen
      replace he : e ∈ (leftOf oEs seen).toList := by simpa using he
      have hsh := left_shrinks oEs seen e he
      obtain ⟨hmem, -⟩ := mem_left he
      obtain ⟨k, hk1, hk2, rfl⟩ := oEs_mem hmem
      simp only at hI7 hsh hen
      have hB7 : Below w.heap.size w w7 := hB.trans (hC7.toBelow hB.size (fun q hq => by omega))
      have hsb7 := hsb.chg hC7 hsr
      have hBo := hB7.alloc hB7.size (.cells #[.string (opr k).word, .string (opr k).sym, .int .i64 (opr k).k, .bool (opr k).t, .bool (opr k).m, .int .i64 (opr k).x] 52)
      have hIo : Iter (w7.alloc (.cells #[.string (opr k).word, .string (opr k).sym, .int .i64 (opr k).k, .bool (opr k).t, .bool (opr k).m, .int .i64 (opr k).x] 52)) rb bm oEs (seen.push (k - 1)) := hI7.chg (S := fun _ => False) (Chg.ofBelow (below_alloc _ _)) (fun h => h) (fun h => h)
      have hso := hsb7.alloc (.cells #[.string (opr k).word, .string (opr k).sym, .int .i64 (opr k).k, .bool (opr k).t, .bool (opr k).m, .int .i64 (opr k).x] 52)
      have hlfo := hIo.left
      have hSE := hid (HSEE.out k hk1 hk2)
      unfold Opr.v at hen
      clear he hmem hI hk1 hk2 hsb hB hI7 hsb7 HSEE HRS HNS
      generalize (opr k).word = ow at *
      generalize (opr k).sym = os at *
      generalize (opr k).k = ok at *
      generalize (opr k).t = ot at *
      generalize (opr k).m = om at *
      generalize (opr k).x = ox at *
      by_cases hem : ow = ⟨#[]⟩
      · have hE1 : ow.toList.isEmpty = true := by rw [hem, ByteArray.toList_eq]; rfl
        have hE2 : ow.toList = [] := by rw [hem, ByteArray.toList_eq]
        clear hSE hB7 hem
        go_wp2_with fail
        go_roundw
        case rel => exact ⟨_, hIo, hBo, hso⟩
        case measure => rw [hlfo, hlf]; exact hsh
      · have hE0 : ow.toList ≠ [] := by
          rw [ByteArray.toList_eq]
          intro q
          exact hem (ByteArray.ext (Array.toList_inj.1 q))
        have hE1 : ow.toList.isEmpty = false := by simpa using hE0
        have hSE2 := hid (hSE.out hem)
        clear hSE hB7
        go_wp2_with fail
        refine (hSE2.out _ hBo).mono ?_
        rintro e w8 ⟨rfl, rfl⟩
        go_wp2_with fail
        go_roundw
        case rel => exact ⟨_, hIo, hBo, hso⟩
        case measure => rw [hlfo, hlf]; exact hsh
theorem step_any (pb : Nat) (p : PT) (ts : List Tok) (N : List ByteArray) (S : List Stp) (w : World) (hP : PB w pb p ts) (hl : ts.length ≤ 1000000) (hNS : NS w pb p N S) :
    Calls Tryd.prog 42 #[pT pb] w (RPost pb p w Stp.v (stepF p.en N S ts)) := by
  by_cases h : wrdOp ts = 0
  · exact step_sym pb p ts N S w hP hl hNS h
  · exact step_word pb p ts N S w hP hl hNS h
end Go.Proofs.YtogcnmjipfllaaaDoor
