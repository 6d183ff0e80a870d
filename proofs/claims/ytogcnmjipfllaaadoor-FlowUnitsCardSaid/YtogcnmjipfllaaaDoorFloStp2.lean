/- flow: the parser: step, at a word -/
import Derived.Test.YtogcnmjipfllaaaDoorFloStp
namespace Go.Proofs.YtogcnmjipfllaaaDoor
open Go.RowKit

set_option maxHeartbeats 4000000 in
set_option maxRecDepth 100000 in
theorem step_word (pb : Nat) (p : PT) (ts : List Tok) (N : List ByteArray) (S : List Stp) (w : World) (hP : PB w pb p ts) (hl : ts.length ≤ 1000000) (hNS : NS w pb p N S) (hw0 : wrdOp ts ≠ 0) :
    Calls Tryd.prog 42 #[pT pb] w (RPost pb p w Stp.v (stepF p.en N S ts)) := by
  obtain ⟨t, r, hts⟩ : ∃ t r, ts = t :: r := by
    cases ts with
    | nil => exact absurd rfl hw0
    | cons t r => exact ⟨t, r, rfl⟩
  have hpl := hP.lt
  have HOP := hid (fun w => operators_is w)
  have HP := hid (fun (w' : World) (hB : Below w.heap.size w w') => hP.below hB)
  have HNS := hid (fun (w' : World) (hC : Chg (fun b => b = pb) w w') => hNS.chg hC)
  obtain ⟨n, hn⟩ : ∃ n, wrdOp ts = n := ⟨_, rfl⟩
  have HN := hid (show 1 ≤ n ∧ n ≤ 10 from ⟨by omega, by have := wrdOp_le ts; omega⟩)
  have HW := hid (show (opr n).word ≠ ⟨#[]⟩ by rw [← hn]; exact wrdOp_word hw0)
  have HSEE := hid (fun (k : Nat) (h1 : 1 ≤ k) (h2 : k ≤ 10) (hw : (opr k).word ≠ ⟨#[]⟩) (w' : World) (hB : Below w.heap.size w w') => (by
    have h := sees_is pb 1 (opr k).word.data.toList p ts w' (hP.below hB) (sees_wrd h1 h2 hw ts)
    rw [hn] at h
    simpa using h : Calls Tryd.prog 37 #[pT pb, .int .i64 1, .string (opr k).word] w' fun e w'' => e = .returned (.bool (decide (n = k))) ∧ w' = w''))
  have HTK := hid (fun (w' : World) (hB : Below w.heap.size w w') => take_any pb p t r w' (by have := hP.below hB; rwa [hts] at this))
  have hrl : r.length ≤ 1000000 := by rw [hts] at hl; simp at hl; omega
  obtain ⟨RS, hRS⟩ : ∃ RS, stepF p.en N S ts = RS := ⟨_, rfl⟩
  have HBAD := hid (fun (K i : Nat) (hK : (opr n).k = K) (hK2 : K ≤ 2) (hi : i < K) (a b : Int) (r' : List Tok) (ho : OpsSt p.en N S (opr n).t r i a b r') (x m : Int) (hb : opdF p.en N S (opr n).t r' = .bad x m) => (by
    rw [← hRS]; subst hn; exact stepF_bad hw0 hK hK2 hi (by rw [hts] at ho ⊢; exact ho) hb : RS = .bad x m))
  have HOK := hid (fun (K : Nat) (hK : (opr n).k = K) (hK2 : K ≤ 2) (a b : Int) (r' : List Tok) (ho : OpsSt p.en N S (opr n).t r K a b r') => (by
    rw [← hRS]; subst hn; exact stepF_ok hw0 hK hK2 (by rw [hts] at ho ⊢; exact ho) : RS = (if 0 < (opr n).x then numF p.en 0 (opr n).x r' else .ok 0 r').bind fun m r3 => .ok ⟨n, a, b, m⟩ r3))
  rw [hRS]
  clear hRS hw0 hn hts hl hP hNS
  unfold pT at HSEE HTK ⊢
  go_enter Tryd.func42, Tryd.ntmps42
  go_wp2_with fail
  refine (HOP.out _).mono ?_
  rintro e w1 ⟨rfl, rfl⟩
  have hsb := (Blk.new w #[.int .i64 0, .int .i64 0, .int .i64 0, .int .i64 0] 32).alloc (.map oEs 10)
  have hm0 : ((w.alloc (.cells #[.int .i64 0, .int .i64 0, .int .i64 0, .int .i64 0] 32)).alloc (.map oEs 10)).heap[(w.alloc (.cells #[.int .i64 0, .int .i64 0, .int .i64 0, .int .i64 0] 32)).heap.size]? = some (.map oEs 10) := heap_alloc_new _ _
  have hB1 := (below_alloc w (.cells #[.int .i64 0, .int .i64 0, .int .i64 0, .int .i64 0] 32)).alloc (by simp) (.map oEs 10)
  generalize (w.alloc (.cells #[.int .i64 0, .int .i64 0, .int .i64 0, .int .i64 0] 32)).alloc (.map oEs 10) = w1 at *
  have hsr : w.heap.size ≠ w1.heap.size := by have := hsb.lt; omega
  generalize hbm : (w.alloc (.cells #[.int .i64 0, .int .i64 0, .int .i64 0, .int .i64 0] 32)).heap.size = bm at *
  clear hbm
  go_wp2_with (at_range; refine wpl_range rfl _ 54 rfl 3 52 Tryd.ulOps bm 10 oEs rfl hm0 oEs_born ?_; intro w6 hI hB6; go_frame)
  replace hsb := hsb.below hB6 hsb.lt
  have hrb : w.heap.size ≤ w1.heap.size := hB1.size
  replace hB1 := hB1.trans (hB6.mono hB1.size)
  generalize w1.heap.size = rb at *
  clear hm0 hB6
  go_loopw [3] (fun s3 wq => ∃ (seen : Array Nat), Iter wq rb bm oEs seen ∧ Hid (seen.contains (n - 1) = false) ∧ Below w.heap.size w wq ∧ Blk wq w.heap.size 32 [.int .i64 0, .int .i64 0, .int .i64 0, .int .i64 0]) (fun _ wq => wq.rangeLeft bm rb)
  case atStart => exact ⟨#[], hI, hid (by simp), hB1, hsb⟩
  case round =>
    clear hB1 hI hsb
    obtain ⟨wk, hwk⟩ : ∃ wk : World, wk = wr := ⟨_, rfl⟩
    subst hwk
    obtain ⟨seen, hI, HS, hB, hsb⟩ := hrel
    have hlf := hI.left
    go_wp2_with (at_next; refine wpl_next rfl _ rfl rb bm oEs seen rfl hI oEs_nodup ?_ ?_)
    · intro h0
      have hall := all_seen oEs seen (by rw [h0]; rfl)
      have := hall _ (oEs_has HN.out.1 HN.out.2)
      rw [HS.out] at this
      cases this
    · intro e w7 he hI7 hC7 hen
      replace he : e ∈ (leftOf oEs seen).toList := by simpa using he
      have hsh := left_shrinks oEs seen e he
      obtain ⟨hmem, -⟩ := mem_left he
      obtain ⟨k, hk1, hk2, rfl⟩ := oEs_mem hmem
      simp only at hI7 hsh hen
      have hB7 : Below w.heap.size w w7 := hB.trans (hC7.toBelow hB.size (fun q hq => by omega))
      have hsb7 := hsb.chg hC7 hsr
      have hne7 : w.heap.size ≠ w7.heap.size := by have := hsb7.lt; omega
      have HK := hid (And.intro hk1 hk2)
      clear he hmem hI hk1 hk2 hsb hB
      have hBo := hB7.alloc hB7.size (.cells #[.string (opr k).word, .string (opr k).sym, .int .i64 (opr k).k, .bool (opr k).t, .bool (opr k).m, .int .i64 (opr k).x] 52)
      have hIo : Iter (w7.alloc (.cells #[.string (opr k).word, .string (opr k).sym, .int .i64 (opr k).k, .bool (opr k).t, .bool (opr k).m, .int .i64 (opr k).x] 52)) rb bm oEs (seen.push (k - 1)) := hI7.chg (S := fun _ => False) (Chg.ofBelow (below_alloc _ _)) (fun h => h) (fun h => h)
      have hso := hsb7.alloc (.cells #[.string (opr k).word, .string (opr k).sym, .int .i64 (opr k).k, .bool (opr k).t, .bool (opr k).m, .int .i64 (opr k).x] 52)
      have hob := Blk.new w7 #[.string (opr k).word, .string (opr k).sym, .int .i64 (opr k).k, .bool (opr k).t, .bool (opr k).m, .int .i64 (opr k).x] 52
      have hlfo := hIo.left
      have hSE := hid (HSEE.out k HK.out.1 HK.out.2)
      unfold Opr.v at hen
      obtain ⟨ow, how⟩ : ∃ x, (opr k).word = x := ⟨_, rfl⟩
      have HOW := hid how
      rw [how] at hen hBo hIo hso hob hlfo hSE
      clear hI7 hsb7 HSEE how
      by_cases hkn : n = k
      · subst hkn
        have hem : ow ≠ ⟨#[]⟩ := by rw [← HOW.out]; exact HW.out
        have hE0 : ow.toList ≠ [] := by
          rw [ByteArray.toList_eq]
          intro q
          exact hem (ByteArray.ext (Array.toList_inj.1 q))
        have hE1 : ow.toList.isEmpty = false := by simpa using hE0
        have hSE2 := hSE.out hem
        simp only [decide_true] at hSE2
        replace hSE2 := hid hSE2
        obtain ⟨K, X, hK, hK2, hX, hX2⟩ := opr_bounds HN.out.1 HN.out.2
        replace HBAD := hid (fun i hi => HBAD.out K i hK hK2 hi)
        replace HOK := hid (HOK.out K hK hK2)
        rw [hX] at HOK
        rw [hK, hX] at hen hBo hIo hso hob hlfo
        clear hem hSE hK hX HW HOW hIo hlfo hlf hsh HK
        generalize (opr n).sym = os at *
        generalize (opr n).t = ot at *
        generalize (opr n).m = om at *
        go_wp2_with fail
        refine (hSE2.out _ hBo).mono ?_
        rintro e w8 ⟨rfl, rfl⟩
        go_wp2_with fail
        refine (HTK.out _ hBo).mono ?_
        rintro e w9 ⟨rfl, hP9, hC9⟩
        have hob9 := hob.chg hC9 (by have := hB7.size; omega)
        have hso9 := hso.chg hC9 (by omega)
        have hC := (Chg.ofBelow (S := fun b => b = pb) hBo).trans hC9
        have hobw : w.heap.size ≤ w7.heap.size := hB7.size
        clear hob hso hC9 hBo hSE2 hen hC7 hB7 HTK
        generalize w7.heap.size = ob at *
        have c2 : ∀ o o', ((w9.alloc o).alloc o').cell? ⟨ob, 2, none⟩ = some (.int .i64 K) := fun o o' => ((hob9.alloc o).alloc o').cell 2
        unfold tokC
        go_wp2_with fail
        clear c2
        have hb5 := (Blk.new w9 #[.int .i64 n, .int .i64 0, .int .i64 0, .int .i64 0] 32).alloc (.cells #[.pointer (some ⟨w9.heap.size, 1, none⟩), .pointer (some ⟨w9.heap.size, 2, none⟩)] 109)
        have hb6 := blk_n (w9.alloc (.cells #[.int .i64 n, .int .i64 0, .int .i64 0, .int .i64 0] 32)) (w9.heap.size + 1) #[.pointer (some ⟨w9.heap.size, 1, none⟩), .pointer (some ⟨w9.heap.size, 2, none⟩)] 109 (by simp)
        have hB9 := ((below_alloc w9 (.cells #[.int .i64 n, .int .i64 0, .int .i64 0, .int .i64 0] 32)).alloc (by simp) (.cells #[.pointer (some ⟨w9.heap.size, 1, none⟩), .pointer (some ⟨w9.heap.size, 2, none⟩)] 109))
        have hso5 : w.heap.size ≠ w9.heap.size ∧ w.heap.size ≠ w9.heap.size + 1 ∧ ob ≠ w9.heap.size ∧ ob ≠ w9.heap.size + 1 ∧ pb ≠ w9.heap.size ∧ w.heap.size ≤ w9.heap.size := by
          have := hso9.lt; have := hob9.lt; omega
        replace hob9 := hob9.below hB9 hob9.lt
        replace hso9 := hso9.below hB9 hso9.lt
        replace hC := hC.trans (Chg.ofBelow hB9)
        replace hP9 := hP9.below hB9
        clear hB9
        obtain ⟨W, hW⟩ : ∃ W : World, W = ((w9.alloc (.cells #[.int .i64 n, .int .i64 0, .int .i64 0, .int .i64 0] 32)).alloc (.cells #[.pointer (some ⟨w9.heap.size, 1, none⟩), .pointer (some ⟨w9.heap.size, 2, none⟩)] 109)) := ⟨_, rfl⟩
        rw [← hW] at hb5 hb6 hob9 hso9 hC hP9 ⊢
        clear hW
        generalize w9.heap.size = sb5 at *
        have HSO5 := hid hso5
        obtain ⟨n1, n2, n3, n4, n5, n6⟩ := hso5
        go_loopw [39] (fun s39 wn => ∃ (i : Nat) (a b : Int) (r2 : List Tok), s39 = .int .i64 i ∧ i ≤ K ∧ Hid (OpsSt p.en N S ot r i a b r2) ∧ r2.length ≤ 1000000 ∧ PB wn pb p r2 ∧ Blk wn sb5 32 [.int .i64 n, .int .i64 a, .int .i64 b, .int .i64 0] ∧
          Blk wn (sb5 + 1) 109 [.pointer (some ⟨sb5, 1, none⟩), .pointer (some ⟨sb5, 2, none⟩)] ∧ Blk wn ob 52 [.string ow, .string os, .int .i64 K, .bool ot, .bool om, .int .i64 X] ∧ Blk wn w.heap.size 32 [.int .i64 0, .int .i64 0, .int .i64 0, .int .i64 0] ∧ Chg (fun b => b = pb) w wn) (fun s39 _ => K - (intOf s39).toNat)
        case atStart => exact ⟨0, 0, 0, r, rfl, by omega, hid ⟨rfl, rfl, rfl⟩, hrl, hP9, hb5, hb6, hob9, hso9, hC⟩
        case round =>
          clear hP9 hb5 hb6 hob9 hso9 hC hrl
          obtain ⟨wn, hwn⟩ : ∃ wn : World, wn = wr := ⟨_, rfl⟩
          subst hwn
          obtain ⟨i, a, b, r2, rfl, hiK, HO, hrl2, hP, hb5, hb6, hob, hso, hC⟩ := hrel
          have HP := hid hP
          have HNSw := hid (HNS.out _ hC)
          by_cases hi : i < K
          · have hiI : (i : Int) < K := by omega
            have c6 : wn.cell? ⟨sb5 + 1, i, none⟩ = some (.pointer (some ⟨sb5, i + 1, none⟩)) := by
              rw [hb6.cell]; rcases (by omega : i = 0 ∨ i = 1) with rfl | rfl <;> rfl
            have co := hob.cell 3
            simp only [List.getElem?_cons_zero, List.getElem?_cons_succ] at co
            have HB5 := hid hb5
            have HB6 := hid hb6
            have HOB := hid hob
            have HSO := hid hso
            have HC := hid hC
            clear hb5 hb6 hob hso hC hP
            obtain ⟨ro, hop⟩ : ∃ ro, opdF p.en N S ot r2 = ro := ⟨_, rfl⟩
            have hcl := hid (opd_any pb ot p r2 N S wn HP.out hrl2 HNSw.out)
            rw [hop] at hcl
            have HOPD := hid hop
            clear hop
            unfold pT at hcl
            go_wp2_with fail
            refine (hcl.out).mono ?_
            clear hcl
            cases ro with
            | bad x m =>
              rintro e w10 ⟨rfl, hC10⟩
              refine ⟨rfl, ?_⟩
              rw [HBAD.out i hi a b r2 HO.out x m HOPD.out]
              exact ⟨rfl, HC.out.trans hC10⟩
            | ok c r3 =>
              rintro e w10 ⟨rfl, hP10, hC10⟩
              have h5 := HB5.out.chg hC10 n5.symm
              have hc5 : w10.cell? ⟨sb5, i + 1, none⟩ = some (.int .i64 (if i = 0 then a else b)) := by
                rw [h5.cell]; rcases (by omega : i = 0 ∨ i = 1) with rfl | rfl <;> rfl
              have hf5 := h5.free (i + 1)
              have HO2 := hid (HO.out.snoc (by omega) HOPD.out)
              have hr3 : r3.length ≤ 1000000 := by have := opdF_len HOPD.out; omega
              have H10 := hid (And.intro hP10 hC10)
              clear hP10 hC10 c6 co h5
              go_wp2_with fail
              obtain ⟨hP10, hC10⟩ := H10.out
              go_roundw
              case rel =>
                have h5 := HB5.out.chg hC10 n5.symm
                have h5' := h5.set (i + 1) (.int .i64 c)
                have hset : ([.int .i64 n, .int .i64 a, .int .i64 b, .int .i64 0] : List Value).set (i + 1) (.int .i64 c) = [.int .i64 n, .int .i64 (if i = 0 then c else a), .int .i64 (if i = 0 then b else c), .int .i64 0] := by
                  rcases (by omega : i = 0 ∨ i = 1) with rfl | rfl <;> rfl
                rw [hset] at h5'
                refine ⟨i + 1, _, _, r3, by go_num, by omega, HO2, hr3, ?_, h5', ?_, ?_, ?_, ?_⟩
                · exact hP10.chg (S := fun q => q = sb5) ((Chg.refl (fun q => q = sb5) w10).set (p := ⟨sb5, i + 1, none⟩) rfl _) (fun q hq h => by have := hpl; omega)
                · exact (HB6.out.chg hC10 (by omega)).other _ (by simp) _
                · exact (HOB.out.chg hC10 (by omega)).other _ n3 _
                · exact (HSO.out.chg hC10 (by omega)).other _ n1 _
                · exact Chg.ofNew (((HC.out.trans hC10).mono (fun q _ h => .inl h)).set (p := ⟨sb5, i + 1, none⟩) (.inr n6) _)
              case measure => simp [intOf]; omega
          · have hiI : ¬ (i : Int) < K := by omega
            have hie : i = K := by omega
            have HRS := hid (HOK.out a b r2 (by rw [← hie]; exact HO.out))
            clear hie hi HNSw HBAD HOK HO
            have co := hob.cell 5
            simp only [List.getElem?_cons_zero, List.getElem?_cons_succ] at co
            have f0 := hso.free 0
            have f1 := hso.free 1
            have f2 := hso.free 2
            have f3 := hso.free 3
            by_cases hx : 0 < X
            · have hxI : (0 : Int) < X := by omega
              rw [if_pos hxI] at HRS
              obtain ⟨ro, hop⟩ : ∃ ro, numF p.en 0 X r2 = ro := ⟨_, rfl⟩
              have hcl := hid (num_any pb 0 X p r2 wn hP hrl2)
              rw [hop] at hcl HRS
              have HB5 := hid hb5
              have HSO := hid hso
              have HC := hid hC
              clear hb5 hb6 hob hso hC hP hop f0 f1 f2 f3
              unfold pT at hcl
              go_wp2_with fail
              refine (hcl.out).mono ?_
              clear hcl
              cases ro with
              | bad x m =>
                rintro e w10 ⟨rfl, hC10⟩
                refine ⟨rfl, ?_⟩
                rw [HRS.out]
                exact ⟨rfl, HC.out.trans hC10⟩
              | ok v r3 =>
                rintro e w10 ⟨rfl, hP10, hC10⟩
                have h5 := HB5.out.chg hC10 n5.symm
                have h5' := h5.set 3 (.int .i64 v)
                have hs' := (HSO.out.chg hC10 (by omega)).other ⟨sb5, 3, none⟩ n1 (.int .i64 v)
                have g3 := h5.free 3
                have d0 := h5'.cell 0
                have d1 := h5'.cell 1
                have d2 := h5'.cell 2
                have d3 := h5'.cell 3
                have f0 := hs'.free 0
                have f1 := hs'.free 1
                have f2 := hs'.free 2
                have f3 := hs'.free 3
                have e3 := h5.cell 3
                have h0 := HSO.out.chg hC10 (by omega)
                have k0 := h0.cell 0
                have k1 := h0.cell 1
                have k2 := h0.cell 2
                have k3 := h0.cell 3
                have l0 := h0.free 0
                have l1 := h0.free 1
                have l2 := h0.free 2
                have l3 := h0.free 3
                simp only [List.getElem?_cons_zero, List.getElem?_cons_succ, List.set_cons_succ, List.set_cons_zero] at d0 d1 d2 d3 e3 k0 k1 k2 k3
                clear h0
                have H10 := hid (And.intro hP10 (And.intro hC10 (And.intro h5' hs')))
                clear hP10 hC10 h5 h5' hs' co
                go_wp2_with fail
                obtain ⟨hP10, hC10, h5', hs'⟩ := H10.out
                refine bodyPost_ret (results_cell_row rfl _ _ w.heap.size 32 #[.int .i64 n, .int .i64 a, .int .i64 b, .int .i64 v] (0, 0) _ rfl ((((hs'.set 0 _).set 1 _).set 2 _).set 3 _) Tryd.underlying32 rfl (by kernel_rfl)) rfl ?_
                rw [HRS.out, PR.bind_ok]
                refine ⟨rfl, ?_, ?_⟩
                · exact hP10.chg (S := fun q => q = sb5 ∨ q = w.heap.size) (((((((Chg.refl (fun q => q = sb5 ∨ q = w.heap.size) w10).set (p := ⟨sb5, 3, none⟩) (.inl rfl) _).set (p := ⟨w.heap.size, 0, none⟩) (.inr rfl) _).set (p := ⟨w.heap.size, 1, none⟩) (.inr rfl) _).set (p := ⟨w.heap.size, 2, none⟩) (.inr rfl) _).set (p := ⟨w.heap.size, 3, none⟩) (.inr rfl) _)) (fun q hq h => by have := hpl; omega)
                · exact Chg.ofNew ((((((((HC.out.trans hC10).mono (fun q _ h => .inl h)).set (p := ⟨sb5, 3, none⟩) (.inr n6) _).set (p := ⟨w.heap.size, 0, none⟩) (.inr (Nat.le_refl _)) _).set (p := ⟨w.heap.size, 1, none⟩) (.inr (Nat.le_refl _)) _).set (p := ⟨w.heap.size, 2, none⟩) (.inr (Nat.le_refl _)) _).set (p := ⟨w.heap.size, 3, none⟩) (.inr (Nat.le_refl _)) _))
            · have hxI : ¬ (0 : Int) < X := by omega
              rw [if_neg hxI, PR.bind_ok] at HRS
              have d0 := hb5.cell 0
              have d1 := hb5.cell 1
              have d2 := hb5.cell 2
              have d3 := hb5.cell 3
              have k0 := hso.cell 0
              have k1 := hso.cell 1
              have k2 := hso.cell 2
              have k3 := hso.cell 3
              simp only [List.getElem?_cons_zero, List.getElem?_cons_succ] at d0 d1 d2 d3 k0 k1 k2 k3
              have H10 := hid (And.intro hP (And.intro hC hso))
              clear hb5 hb6 hob hso hC hP HP
              go_wp2_with fail
              obtain ⟨hP10, hC10, hs'⟩ := H10.out
              refine bodyPost_ret (results_cell_row rfl _ _ w.heap.size 32 #[.int .i64 n, .int .i64 a, .int .i64 b, .int .i64 0] (0, 0) _ rfl ((((hs'.set 0 _).set 1 _).set 2 _).set 3 _) Tryd.underlying32 rfl (by kernel_rfl)) rfl ?_
              rw [HRS.out]
              refine ⟨rfl, ?_, ?_⟩
              · exact hP10.chg (S := fun q => q = w.heap.size) ((((((Chg.refl (fun q => q = w.heap.size) wn).set (p := ⟨w.heap.size, 0, none⟩) rfl _).set (p := ⟨w.heap.size, 1, none⟩) rfl _).set (p := ⟨w.heap.size, 2, none⟩) rfl _).set (p := ⟨w.heap.size, 3, none⟩) rfl _)) (fun q hq h => by have := hpl; omega)
              · exact Chg.ofNew (((((hC10.mono (fun q _ h => .inl h)).set (p := ⟨w.heap.size, 0, none⟩) (.inr (Nat.le_refl _)) _).set (p := ⟨w.heap.size, 1, none⟩) (.inr (Nat.le_refl _)) _).set (p := ⟨w.heap.size, 2, none⟩) (.inr (Nat.le_refl _)) _).set (p := ⟨w.heap.size, 3, none⟩) (.inr (Nat.le_refl _)) _)
      · by_cases hem : ow = ⟨#[]⟩
        · have hE1 : ow.toList.isEmpty = true := by rw [hem, ByteArray.toList_eq]; rfl
          have hE2 : ow.toList = [] := by rw [hem, ByteArray.toList_eq]
          clear hSE HOK HBAD hB7 hob hem
          generalize (opr k).sym = os at *
          generalize (opr k).k = ok at *
          generalize (opr k).t = ot at *
          generalize (opr k).m = om at *
          generalize (opr k).x = ox at *
          go_wp2_with fail
          go_roundw
          case rel => exact ⟨_, hIo, hid (by rw [Array.contains_push, HS.out]; simp; have := HK.out; have := HN.out; omega), hBo, hso⟩
          case measure => rw [hlfo, hlf]; exact hsh
        · have hE0 : ow.toList ≠ [] := by
            rw [ByteArray.toList_eq]
            intro q
            exact hem (ByteArray.ext (Array.toList_inj.1 q))
          have hE1 : ow.toList.isEmpty = false := by simpa using hE0
          have hSE2 := hid (hSE.out hem)
          have hdf : decide (n = k) = false := decide_eq_false hkn
          rw [hdf] at hSE2
          clear hSE HOK HBAD hB7 hob
          generalize (opr k).sym = os at *
          generalize (opr k).k = ok at *
          generalize (opr k).t = ot at *
          generalize (opr k).m = om at *
          generalize (opr k).x = ox at *
          go_wp2_with fail
          refine (hSE2.out _ hBo).mono ?_
          rintro e w8 ⟨rfl, rfl⟩
          go_wp2_with fail
          go_roundw
          case rel => exact ⟨_, hIo, hid (by rw [Array.contains_push, HS.out]; simp; have := HK.out; have := HN.out; omega), hBo, hso⟩
          case measure => rw [hlfo, hlf]; exact hsh
end Go.Proofs.YtogcnmjipfllaaaDoor
