/- flow: FlowUnits -/
import Derived.Test.YtogcnmjipfllaaaDoorFloPure
namespace Go.Proofs.YtogcnmjipfllaaaDoor
open Go.RowKit

theorem unitsL_err (I : List U) : ∀ (S : List Stp) (own : List U), (unitsL I own S).2 ≠ 0 → (unitsL I own S).1 = []
  | [], _, h => absurd rfl h
  | s :: S, own, h => by
    unfold unitsL at h ⊢
    by_cases h1 : (unitOf I own s).2 = 0
    · rw [if_pos h1] at h ⊢; exact unitsL_err I S _ h
    · rw [if_neg h1]
theorem unitsF_err (f : Flw) (I : List U) (h : (unitsF f I).2 ≠ 0) : (unitsF f I).1 = [] := by
  unfold unitsF at h ⊢
  split
  · rename_i hc; rw [if_pos hc] at h; exact unitsL_err I _ _ h
  · rfl
theorem unitsF_no {f : Flw} {I : List U} (h : ¬ (fvB f = true ∧ I.length = 4)) : unitsF f I = ([], 1) := by
  unfold unitsF
  exact if_neg (fun q => h ⟨q.1, q.2.1⟩)
/-- what a valid step says of its numbers -/
theorem stepB_ab {M : List Bool} {s : Stp} (h : stepB M s = true) : 0 ≤ s.a ∧ 0 ≤ s.b ∧ (s.op ≠ 1 → s.a < M.length ∧ s.b < M.length) := by
  obtain ⟨hio, -, -, ha, hb⟩ := stepB_ops h
  have hio' : 1 ≤ s.op ∧ s.op ≤ 10 := by unfold isO at hio; simpa using hio
  have h0 : ∀ {k : Nat} {a : Int}, (opr s.op).k ≤ k → opndB M (opr s.op).k (opr s.op).t k a = true → a = 0 := by
    intro k a hk ho
    unfold opndB at ho
    rw [if_pos hk] at ho
    simpa using ho
  unfold stepB at h
  simp only [Bool.and_eq_true, decide_eq_true_eq] at h
  obtain ⟨⟨-, h4⟩, h5⟩ := h
  obtain ⟨op, a, b, n⟩ := s
  simp only at *
  rcases ten hio' with rfl | rfl | rfl | rfl | rfl | rfl | rfl | rfl | rfl | rfl
  · have q1 := h0 (by decide) h4
    have q2 := h0 (by decide) h5
    exact ⟨by omega, by omega, fun q => absurd rfl q⟩
  · have q1 := ha (by decide); have q2 := hb (by decide); exact ⟨q1.1, q2.1, fun _ => ⟨q1.2, q2.2⟩⟩
  · have q1 := ha (by decide); have q2 := hb (by decide); exact ⟨q1.1, q2.1, fun _ => ⟨q1.2, q2.2⟩⟩
  · have q1 := ha (by decide); have q2 := hb (by decide); exact ⟨q1.1, q2.1, fun _ => ⟨q1.2, q2.2⟩⟩
  · have q1 := ha (by decide); have q2 := h0 (by decide) h5; exact ⟨q1.1, by omega, fun _ => ⟨q1.2, by omega⟩⟩
  · have q1 := ha (by decide); have q2 := hb (by decide); exact ⟨q1.1, q2.1, fun _ => ⟨q1.2, q2.2⟩⟩
  · have q1 := ha (by decide); have q2 := h0 (by decide) h5; exact ⟨q1.1, by omega, fun _ => ⟨q1.2, by omega⟩⟩
  · have q1 := ha (by decide); have q2 := hb (by decide); exact ⟨q1.1, q2.1, fun _ => ⟨q1.2, q2.2⟩⟩
  · have q1 := ha (by decide); have q2 := hb (by decide); exact ⟨q1.1, q2.1, fun _ => ⟨q1.2, q2.2⟩⟩
  · have q1 := ha (by decide); have q2 := h0 (by decide) h5; exact ⟨q1.1, by omega, fun _ => ⟨q1.2, by omega⟩⟩
theorem uns_chg {S : Nat → Prop} {w w' : World} {ao : Option Addr} {L : List U} (h : Uns w ao L) (hc : Chg S w w') (hs : L ≠ [] → ∀ b off, ao = some ⟨b, off, none⟩ → ¬ S b) : Uns w' ao L := by
  cases L with
  | nil => exact ⟨by simp [unitsC], by simp [unitsC]⟩
  | cons u L => exact SlV.chg h hc (fun b off e _ => hs (by simp) b off e)
theorem uns_grown {w w' : World} {row : Option Nat} {ao : Option Addr} {L : List U} (h : Uns w ao L) (hg : w.grownBy w' row) (hs : L ≠ [] → ∀ b off, ao = some ⟨b, off, none⟩ → row ≠ some b) : Uns w' ao L := by
  cases L with
  | nil => exact ⟨by simp [unitsC], by simp [unitsC]⟩
  | cons u L => exact SlV.grown h hg (fun b off e => hs (by simp) b off e)
set_option maxHeartbeats 8000000 in
set_option maxRecDepth 100000 in
theorem unl_walk (f : Flw) (so : Option Addr) (sc : Nat) (I : List U) (io : Option Addr) (ic : Nat) (w : World) (hS : f.steps.length ≤ 1000 → Stps w so f.steps) (hl : f.steps.length ≤ sc) (hm : sc ≤ maxLen) (hnm : f.name.size ≤ maxLen) (hI : I.length = 4 → Uns w io I) :
    Calls Tryd.prog 3 #[fV f so sc, .slice io I.length ic] w fun e w' => e = .returned (.bool true) ∧ Below w.heap.size w w' := by
  have HHEAD := hid (fun w => head_any w)
  have HFEW := hid (fun w => few_any f so sc w (by omega) hnm)
  obtain ⟨m, hm4⟩ : ∃ m, I.length = m := ⟨_, rfl⟩
  have hfb := Blk.new w #[.string f.name, .int .i64 f.ver, .slice so f.steps.length sc] 24
  have hB0 := below_alloc w (.cells #[.string f.name, .int .i64 f.ver, .slice so f.steps.length sc] 24)
  rw [hm4]
  have HM := hid hm4
  clear hm4
  simp only [fV]
  simp only [fV] at HFEW
  go_enter Tryd.func3, Tryd.ntmps3
  go_wp2_with fail
  refine (HHEAD.out _).mono ?_
  rintro e w1 ⟨rfl, hB1⟩
  replace hfb := hfb.below hB1 hfb.lt
  replace hB1 := hB0.trans (hB1.mono hB0.size)
  clear hB0 HHEAD
  generalize hfbn : w.heap.size = fb at hfb hB1 ⊢
  have HFBN := hid hfbn
  clear hfbn
  have c0 := hfb.cell 0
  have c1 := hfb.cell 1
  have c2 := hfb.cell 2
  simp only [List.getElem?_cons_zero, List.getElem?_cons_succ] at c0 c1 c2
  have HH := hid (And.intro hfb hB1)
  clear hfb hB1
  go_wp2_with fail
  refine (HFEW.out _).mono ?_
  rintro e w2 ⟨rfl, hB2⟩
  clear HFEW c0 c1 c2
  obtain ⟨hfb, hB1⟩ := HH.out
  replace hfb := hfb.below hB2 hfb.lt
  replace hB1 := hB1.trans (hB2.mono (by have := hB1.size; have := HFBN.out; omega))
  clear hB2 HH
  by_cases hfew : f.steps.length ≤ 50 ∧ f.name.size ≤ 60
  · rw [show (decide (f.steps.length ≤ 50) && decide (f.name.size ≤ 60)) = true by simp [hfew.1, hfew.2]]
    have HST := hid (fun (w' : World) (hB : Below fb w w') => (SlV.below (hS (by omega)) (by rw [HFBN.out]; exact hB) : Stps w' so f.steps))
    have hs60 : f.name.size ≤ 1000000 := by omega
    have HV := hid (fun (w' : World) (hB : Below fb w w') => fvalid_any f so sc w' (HST.out w' hB) hs60)
    have HIB := hid (fun (w' : World) (hB : Below fb w w') (h : I.length = 4) => (SlV.below (hI h) (by rw [HFBN.out]; exact hB) : Uns w' io I))
    have hu1 := units_cap f so sc I io m ic w2 (HST.out _ hB1) (HIB.out _ hB1) HM.out hs60
    obtain ⟨RU, hRU⟩ : ∃ RU, unitsF f I = RU := ⟨_, rfl⟩
    have HERR := hid (unitsF_err f I)
    have HNO := hid (@unitsF_no f I)
    have h40 := unitsF_few f I
    rw [hRU] at hu1 HERR HNO h40
    have HRU := hid hRU
    have hfsl : f.steps.length ≤ 50 := hfew.1
    clear hfew hs60 hl hm hnm hRU
    simp only [fV] at HV hu1
    have c0 := hfb.cell 0
    have c1 := hfb.cell 1
    have c2 := hfb.cell 2
    simp only [List.getElem?_cons_zero, List.getElem?_cons_succ] at c0 c1 c2
    have HU1 := hid hu1
    have HH := hid (And.intro hfb hB1)
    clear hfb hB1 hu1
    go_wp2_with fail
    obtain ⟨hfb, hB1⟩ := HH.out
    refine (HU1.out).mono ?_
    rintro e w3 ⟨uo, uc, rfl, hU3, hB3, hucap⟩
    have hw2 : fb ≤ w2.heap.size := by have := hfb.lt; omega
    replace hfb := hfb.below hB3 hfb.lt
    replace hB1 := hB1.trans (hB3.mono hw2)
    clear hB3 HH c0 c1 c2 HU1 hw2 hucap
    obtain ⟨rl, hrl⟩ : ∃ rl, RU.1.length = rl := ⟨_, rfl⟩
    obtain ⟨re, hre⟩ : ∃ re, RU.2 = re := ⟨_, rfl⟩
    have HRL := hid hrl
    have HRE := hid hre
    rw [hrl, hre]
    rw [hrl] at h40
    clear hrl hre
    by_cases hre1 : re = 1
    · have hrl0 : rl = 0 := by
        have := HERR.out (by rw [HRE.out, hre1]; decide)
        rw [← HRL.out, this]; rfl
      subst hre1 hrl0
      go_wp2_with fail
      go_ret
      exact ⟨rfl, by rw [HFBN.out]; exact hB1⟩
    · have hv : fvB f = true ∧ m = 4 := by
        refine Classical.byContradiction fun q => hre1 ?_
        rw [← HRE.out, HNO.out (fun q2 => q ⟨q2.1, by rw [← HM.out]; exact q2.2⟩)]
      obtain ⟨hv, rfl⟩ := hv
      have hpr := fvB_parts hv
      have hreb : (re == 1) = false := beq_eq_false_iff_ne.2 hre1
      have c0 := hfb.cell 0
      have c1 := hfb.cell 1
      have c2 := hfb.cell 2
      simp only [List.getElem?_cons_zero, List.getElem?_cons_succ] at c0 c1 c2
      have HH := hid (And.intro hfb (And.intro hB1 hU3))
      clear hfb hB1 hU3 HERR HNO
      go_wp2_with fail
      obtain ⟨hfb, hB1, hU3⟩ := HH.out
      refine (HV.out _ hB1).mono ?_
      rintro e w4 ⟨rfl, hB4⟩
      have hw3 : fb ≤ w3.heap.size := by have := hfb.lt; omega
      have hUL : RU.1 ≠ [] → ∀ b off, uo = some ⟨b, off, none⟩ → b < w3.heap.size := fun h0 b off e => by
        subst e
        obtain ⟨u1, hu1⟩ : ∃ u, RU.1[0]? = some u := ⟨_, List.getElem?_eq_getElem (List.length_pos_iff.2 h0)⟩
        obtain ⟨b', off', e', hb', -⟩ := hU3.at hu1
        cases e'
        exact hb'
      replace hfb := hfb.below hB4 hfb.lt
      replace hB1 := hB1.trans (hB4.mono hw3)
      have hw4 := hB4.size
      replace hU3 : Uns w4 uo RU.1 := SlV.below hU3 hB4
      clear hB4 HH c0 c1 c2 hw3
      rw [hv]
      have hR : Hid (unitsL I [] f.steps = RU ∨ RU = ([], 1)) := by
        have := HRU.out
        unfold unitsF at this
        unfold Hid
        by_cases hc : fvB f = true ∧ I.length = 4 ∧ I.all (fun u => decide (mulE u u0 = 0)) = true
        · rw [if_pos hc] at this; exact .inl this
        · rw [if_neg hc] at this; exact .inr this.symm
      have hR : Hid (unitsL I [] f.steps = RU) := by
        rcases hR.out with h | h
        · exact h
        · exfalso
          apply hre1
          rw [← HRE.out, h]
      have hbz : fb ≤ w4.heap.size := by have := hfb.lt; omega
      have HTB := hid (fun (w' : World) (h : Below w4.heap.size w4 w') => (hB1.trans (h.mono hbz) : Below fb w w'))
      have hM0 : MineN 3 w4.heap.size w4 w4 34 (.slice none 0 0) 0 [] := MineN.start (Below.refl _ _) (Nat.le_refl _)
      have HUB := hid (fun (h0 : RU.1 ≠ []) b off (e : uo = some ⟨b, off, none⟩) => (Nat.lt_of_lt_of_le (hUL h0 b off e) hw4 : b < w4.heap.size))
      have HFZ := hid (show fb < w4.heap.size from hfb.lt)
      have HBB := hid hB1
      generalize w4.heap.size = bz at *
      obtain ⟨nm, ver, S⟩ := f
      simp only at HRU HV hfb hR hpr HST hS hfsl ⊢
      obtain ⟨n, hn⟩ : ∃ n, S.length = n := ⟨_, rfl⟩
      rw [hn] at hfb
      have HN := hid hn
      have hn40 : n ≤ 40 := by rw [← hn]; exact hpr.2.2.1
      have HMUL := hid (fun u v w => mul_any u v w)
      have HCH := hid (fun i s h => stepsB_all S [] hpr.1 i s h)
      have HFB := hid hfb
      have HU3 := hid hU3
      clear hfb hU3 hpr hn HV hUL hw4 hbz hB1 hfsl
      go_wp2_with fail
      go_loopw [8, 9] (fun s8 s9 wr => ∃ (i : Nat) (L : List U), s9 = .int .i64 i ∧ i ≤ n ∧ MineN 3 bz w4 wr 34 s8 i (unitsC L) ∧ Blk wr fb 24 [.string nm, .int .i64 ver, .slice so n sc] ∧ Uns wr uo RU.1 ∧ Hid (L.length = i) ∧ Hid (unitsL I L (S.drop i) = RU)) (fun _ s9 _ => n - (intOf s9).toNat)
      case atStart => exact ⟨0, [], rfl, by omega, hM0, HFB.out, HU3.out, hid rfl, hR⟩
      case round =>
        clear hM0 HFB HU3 hR
        obtain ⟨wq, hwq⟩ : ∃ wq : World, wq = wr := ⟨_, rfl⟩
        subst hwq
        obtain ⟨i, L, rfl, hi, hM, hfb, hUq, HL, HR⟩ := hrel
        have c2 := hfb.cell 2
        simp only [List.getElem?_cons_zero, List.getElem?_cons_succ] at c2
        by_cases hin : i < n
        · have hinI : (i : Int) < n := by omega
          obtain ⟨s, hsi⟩ : ∃ s, S[i]? = some s := ⟨_, List.getElem?_eq_getElem (by rw [HN.out]; exact hin)⟩
          have hSt : Stps wq so S := HST.out _ (HTB.out _ hM.below)
          obtain ⟨b, off, hso, hbl, d0, d1, d2, d3⟩ := hSt.at hsi
          have hdrop : S.drop i = s :: S.drop (i + 1) := by
            rw [List.drop_eq_getElem_cons (by rw [HN.out]; exact hin)]
            have := List.getElem?_eq_getElem (show i < S.length by rw [HN.out]; exact hin)
            rw [hsi] at this
            rw [← Option.some.inj this]
          have hst := HCH.out i s hsi
          rw [List.nil_append] at hst
          obtain ⟨hio, hn0, hnx, hoa, hob⟩ := stepB_ops hst
          have hab := stepB_ab hst
          rw [maskL_len, List.length_take, Nat.min_eq_left (by have := HN.out; omega)] at hoa hob hab
          rw [hdrop] at HR
          subst hso
          obtain ⟨sop, sa, sb, sn⟩ := s
          simp only at d0 d1 d2 d3 hio hn0 hnx hoa hob hab
          have HSZ := hid (show bz ≤ wq.heap.size from hM.base)
          have HH := hid (And.intro hM (And.intro hfb hUq))
          have ha0 : ¬ sa < 0 := by omega
          have hb0 : ¬ sb < 0 := by omega
          have hn00 : ¬ sn < 0 := by omega
          clear hdrop hst hsi hSt hbl hM hfb hUq
          go_upto_region 13 with fail
          obtain ⟨hM, hfb, hUq⟩ := HH.out
          obtain ⟨lo, lc, hu10, hsl, -⟩ := hM.slv (by rw [unitsC_len, HL.out]; unfold maxLen; omega)
          subst hu10
          have h12 := (Blk.new wq #[.int .i64 sop, .int .i64 sa, .int .i64 sb, .int .i64 sn] 32).alloc (.cells #[.int .i64 0, .int .i64 0, .int .i64 0] 34)
          have h13 := blk_n (wq.alloc (.cells #[.int .i64 sop, .int .i64 sa, .int .i64 sb, .int .i64 sn] 32)) (wq.heap.size + 1) #[.int .i64 0, .int .i64 0, .int .i64 0] 34 (by simp)
          have hBW : Below wq.heap.size wq ((wq.alloc (.cells #[.int .i64 sop, .int .i64 sa, .int .i64 sb, .int .i64 sn] 32)).alloc (.cells #[.int .i64 0, .int .i64 0, .int .i64 0] 34)) := (below_alloc _ _).alloc (by simp) _
          have hMW0 : MineN 3 bz w4 _ 34 (.slice lo i lc) i (unitsC L) := (hM.alloc (.cells #[.int .i64 sop, .int .i64 sa, .int .i64 sb, .int .i64 sn] 32)).alloc (.cells #[.int .i64 0, .int .i64 0, .int .i64 0] 34)
          have hfbW0 := (hfb.alloc (.cells #[.int .i64 sop, .int .i64 sa, .int .i64 sb, .int .i64 sn] 32)).alloc (.cells #[.int .i64 0, .int .i64 0, .int .i64 0] 34)
          have hLW0 : Uns _ lo L := SlV.below hsl hBW
          have hlts : ∀ k, (Value.slice lo i lc).ownBlock = some k → k < wq.heap.size := fun k hk => (hM.own.lt k hk).2
          have hltb : ∀ b off, lo = some ⟨b, off, none⟩ → b < wq.heap.size := fun b off e => (hM.own.lt b (by rw [e]; rfl)).2
          have hnel := hfb.lt
          have hUW0 : Uns _ uo RU.1 := SlV.below hUq hBW
          obtain ⟨W, hW⟩ : ∃ W : World, W = ((wq.alloc (.cells #[.int .i64 sop, .int .i64 sa, .int .i64 sb, .int .i64 sn] 32)).alloc (.cells #[.int .i64 0, .int .i64 0, .int .i64 0] 34)) := ⟨_, rfl⟩
          rw [← hW] at h12 h13 hMW0 hfbW0 hLW0 hUW0 ⊢
          clear hW hBW hM hfb hsl HH hUq c2 d0 d1 d2 d3
          generalize hb13 : wq.heap.size + 1 = b13 at *
          generalize wq.heap.size = b12 at *
          have HNE := hid (show b12 + 1 = b13 ∧ fb < b12 ∧ bz ≤ b12 ∧ fb < bz from ⟨hb13, hnel, HSZ.out, HFZ.out⟩)
          have HLT := hid hlts
          have HLB := hid hltb
          clear hb13 hnel hlts hltb
          have hMW := hMW0
          have hfbW := hfbW0
          have hLW := hLW0
          have hUW := hUW0
          clear hMW0 hfbW0 hLW0 hUW0
          have HIN := hid hin
          have hL1 : i + 1 ≤ maxLen := by unfold maxLen; omega
          have hL2 : (i + 1) * 24 ≤ 140737488355328 := by omega
          clear hin
          have hten : 1 ≤ sop ∧ sop ≤ 10 := by unfold isO at hio; simpa using hio
          rcases ten hten with rfl | rfl | rfl | rfl | rfl | rfl | rfl | rfl | rfl | rfl
          · obtain ⟨j, rfl⟩ : ∃ j : Nat, sn = j := ⟨sn.toNat, by omega⟩
            have hx3 : (opr 1).x = 3 := rfl
            rw [hx3] at hnx
            have hj4 : (j : Int) < 4 := by omega
            have hj4n : j < 4 := by omega
            have hmin : min (j : Int) 3 = j := by omega
            have hmin2 : (min (j : Int) 3).toNat = j := by omega
            obtain ⟨u, hu⟩ : ∃ u, I[j]? = some u := ⟨_, List.getElem?_eq_getElem (by rw [HM.out]; exact hj4n)⟩
            have hat : uAt I j = u := by unfold uAt; rw [Int.toNat_natCast, List.getD_eq_getElem?_getD, hu]; rfl
            obtain ⟨ib, ioff, hio', hib, e0, e1, e2⟩ := (show Uns W io I from SlV.below (hI HM.out) (by rw [HFBN.out]; exact HTB.out _ hMW.below)).at hu
            subst hio'
            have HR2 : Hid (unitsL I (L ++ [u]) (S.drop (i + 1)) = RU) := by
              unfold Hid
              rw [← HR.out]
              conv => rhs; unfold unitsL
              have hun : unitOf I L ⟨1, sa, sb, j⟩ = (u, 0) := by unfold unitOf; rw [if_pos rfl, hat]
              rw [hun]; exact (if_pos rfl).symm
            obtain ⟨ua, ub, uc⟩ := u
            simp only at e0 e1 e2
            have hC' : Chg (fun q => q = b13) W (((W.setCell ⟨b13, 0, none⟩ (.int .i64 ua)).setCell ⟨b13, 1, none⟩ (.int .i64 ub)).setCell ⟨b13, 2, none⟩ (.int .i64 uc)) := (((Chg.refl (fun q => q = b13) W).set (p := ⟨b13, 0, none⟩) rfl _).set (p := ⟨b13, 1, none⟩) rfl _).set (p := ⟨b13, 2, none⟩) rfl _
            have h13' : Blk (((W.setCell ⟨b13, 0, none⟩ (.int .i64 ua)).setCell ⟨b13, 1, none⟩ (.int .i64 ub)).setCell ⟨b13, 2, none⟩ (.int .i64 uc)) b13 34 [.int .i64 ua, .int .i64 ub, .int .i64 uc] := ((h13.set 0 _).set 1 _).set 2 _
            have HX := hid (show MineN 3 bz w4 _ 34 (.slice _ i lc) i (unitsC L) ∧ Blk _ fb 24 [.string nm, .int .i64 ver, .slice (some ⟨b, off, none⟩) n sc] ∧ Uns _ uo RU.1 from ⟨hMW.chg3 hC' (fun k hk => by have := HNE.out; have := hMW.own.lt k hk; have := HLT.out k hk; omega) (by have := HNE.out; omega), hfbW.chg hC' (by have := HNE.out; omega), uns_chg hUW hC' (fun h0 b' off' e hq => by have := HUB.out h0 b' off' e; have := HNE.out; omega)⟩)
            have k0 := h13'.cell 0
            have k1 := h13'.cell 1
            have k2 := h13'.cell 2
            simp only [List.getElem?_cons_zero, List.getElem?_cons_succ] at k0 k1 k2
            have z0 := h13.cell 0
            have z1 := h13.cell 1
            have z2 := h13.cell 2
            simp only [List.getElem?_cons_zero, List.getElem?_cons_succ] at z0 z1 z2
            have g0 := h13.free 0
            have g1 := h13.free 1
            have g2 := h13.free 2
            have y0 := h12.cell 0
            have y1 := h12.cell 1
            have y2 := h12.cell 2
            have y3 := h12.cell 3
            simp only [List.getElem?_cons_zero, List.getElem?_cons_succ] at y0 y1 y2 y3
            clear hat hu hib hMW hfbW hLW hUW h12 h13 hC' h13' hoa hob hnx hx3 HR hio hab
            by_cases hai : (i : Int) ≤ sa <;> by_cases hbi : (i : Int) ≤ sb
            all_goals
              have hone : ∀ u ∈ (#[Value.int .i64 ua, Value.int .i64 ub, Value.int .i64 uc] : Array Value).toList, u.oneCell' = true := by intro u hu; simp at hu; rcases hu with rfl | rfl | rfl <;> rfl
              go_wp2_with (at_builtin; refine wpl_appN rfl _ _ 25 rfl 34 _ 3 24 Tryd.underlying25 Tryd.unitInfo rfl (by decide) _ _ _ _ _ HX.out.1 rfl #[.int .i64 ua, .int .i64 ub, .int .i64 uc] rfl hone (by first | rfl | (show Value.slice (some _) 1 1 = Value.slice (some _) 1 1; simp only [World.size_setCell])) hL1 hL2 ?_; intro g2 cap2 w9 hm9 hg9 hBg9 hat9)
              go_roundw
              case rel =>
                refine ⟨i + 1, L ++ [⟨ua, ub, uc⟩], by go_num, by have := HIN.out; omega, ?_, blk_gr HX.out.1.own hg9 fb _ _ (by decide) HX.out.2.1, uns_grown HX.out.2.2 hg9 (fun h0 b' off' e q => by have := HUB.out h0 b' off' e; have := (HX.out.1.own.lt b' q).1; omega), hid (by rw [List.length_append, HL.out]; rfl), HR2⟩
                have e1 : unitsC (L ++ [⟨ua, ub, uc⟩]) = unitsC L ++ [.int .i64 ua, .int .i64 ub, .int .i64 uc] := by simp [unitsC, uCells]
                rw [e1]
                exact hm9
              case measure => simp [intOf]; have := HIN.out; omega
          · have hk : 0 ≤ sa ∧ sa < (i : Int) := hoa (by decide)
            have hk2 : 0 ≤ sb ∧ sb < (i : Int) := hob (by decide)
            have hab2 := hab.2.2 (by show ¬ (2 : Int) = 1; decide)
            have hai : ¬ (i : Int) ≤ sa := by omega
            have hbi : ¬ (i : Int) ≤ sb := by omega
            obtain ⟨jp, rfl⟩ : ∃ j : Nat, sa = j := ⟨sa.toNat, by omega⟩
            obtain ⟨p, hp⟩ : ∃ u, L[jp]? = some u := ⟨_, List.getElem?_eq_getElem (by rw [HL.out]; omega)⟩
            have hatp : uAt L jp = p := by unfold uAt; rw [Int.toNat_natCast, List.getD_eq_getElem?_getD, hp]; rfl
            obtain ⟨lb, loff, hlo, hlb, p0, p1, p2⟩ := hLW.at hp
            subst hlo
            obtain ⟨jq, rfl⟩ : ∃ j : Nat, sb = j := ⟨sb.toNat, by omega⟩
            obtain ⟨q, hq⟩ : ∃ u, L[jq]? = some u := ⟨_, List.getElem?_eq_getElem (by rw [HL.out]; omega)⟩
            have hatq : uAt L jq = q := by unfold uAt; rw [Int.toNat_natCast, List.getD_eq_getElem?_getD, hq]; rfl
            obtain ⟨lb2, loff2, hlo, hlb2, q0, q1, q2⟩ := hLW.at hq
            obtain ⟨rfl, rfl⟩ : lb = lb2 ∧ loff = loff2 := by cases hlo; exact ⟨rfl, rfl⟩
            clear hlo
            have hjI : (jp : Int) < i := by omega
            have hjn : jp < i := by omega
            have hjI2 : (jq : Int) < i := by omega
            have hjn2 : jq < i := by omega
            have HUN : Hid (unitOf I L ⟨2, jp, jq, sn⟩ = (p, if p = q then 0 else 15)) := by unfold Hid unitOf; rw [if_neg (show ¬ (2 : Int) = 1 by decide), if_neg (show ¬ (2 : Int) = 4 by decide), if_neg (show ¬ (2 : Int) = 5 by decide), if_pos (show ((2 : Int) = 2 ∨ (2 : Int) = 3 ∨ (2 : Int) = 6) by decide), hatp, hatq]
            obtain ⟨pa, pb, pc⟩ := p
            obtain ⟨qa, qb, qc⟩ := q
            simp only at p0 p1 p2 q0 q1 q2
            have hC' : Chg (fun q => q = b13) W (((W.setCell ⟨b13, 0, none⟩ (.int .i64 pa)).setCell ⟨b13, 1, none⟩ (.int .i64 pb)).setCell ⟨b13, 2, none⟩ (.int .i64 pc)) := (((Chg.refl (fun q => q = b13) W).set (p := ⟨b13, 0, none⟩) rfl _).set (p := ⟨b13, 1, none⟩) rfl _).set (p := ⟨b13, 2, none⟩) rfl _
            have h13' : Blk (((W.setCell ⟨b13, 0, none⟩ (.int .i64 pa)).setCell ⟨b13, 1, none⟩ (.int .i64 pb)).setCell ⟨b13, 2, none⟩ (.int .i64 pc)) b13 34 [.int .i64 pa, .int .i64 pb, .int .i64 pc] := ((h13.set 0 _).set 1 _).set 2 _
            have HX := hid (show MineN 3 bz w4 _ 34 (.slice _ i lc) i (unitsC L) ∧ Blk _ fb 24 [.string nm, .int .i64 ver, .slice (some ⟨b, off, none⟩) n sc] ∧ Uns _ uo RU.1 from ⟨hMW.chg3 hC' (fun k hk => by have := HNE.out; have := hMW.own.lt k hk; have := HLT.out k hk; omega) (by have := HNE.out; omega), hfbW.chg hC' (by have := HNE.out; omega), uns_chg hUW hC' (fun h0 b' off' e hq => by have := HUB.out h0 b' off' e; have := HNE.out; omega)⟩)
            have k0 := h13'.cell 0
            have k1 := h13'.cell 1
            have k2 := h13'.cell 2
            simp only [List.getElem?_cons_zero, List.getElem?_cons_succ] at k0 k1 k2
            have z0 := h13.cell 0
            have z1 := h13.cell 1
            have z2 := h13.cell 2
            simp only [List.getElem?_cons_zero, List.getElem?_cons_succ] at z0 z1 z2
            have g0 := h13.free 0
            have g1 := h13.free 1
            have g2 := h13.free 2
            have y0 := h12.cell 0
            have y1 := h12.cell 1
            have y2 := h12.cell 2
            have y3 := h12.cell 3
            simp only [List.getElem?_cons_zero, List.getElem?_cons_succ] at y0 y1 y2 y3
            obtain ⟨Wd, hWd⟩ : ∃ Wd : World, Wd = (((W.setCell ⟨b13, 0, none⟩ (.int .i64 pa)).setCell ⟨b13, 1, none⟩ (.int .i64 pb)).setCell ⟨b13, 2, none⟩ (.int .i64 pc)) := ⟨_, rfl⟩
            have H12 := hid (h12.chg hC' (by have := HNE.out; omega))
            have Q0 := hid ((World.cell?_of_block (w := W) (a := ⟨lb, loff + jq * 3, none⟩) (hC'.block lb hlb (by have := HNE.out; have := HLB.out _ _ rfl; omega))).trans q0)
            have Q1 := hid ((World.cell?_of_block (w := W) (a := ⟨lb, loff + jq * 3 + 1, none⟩) (hC'.block lb hlb (by have := HNE.out; have := HLB.out _ _ rfl; omega))).trans q1)
            have Q2 := hid ((World.cell?_of_block (w := W) (a := ⟨lb, loff + jq * 3 + 2, none⟩) (hC'.block lb hlb (by have := HNE.out; have := HLB.out _ _ rfl; omega))).trans q2)
            have H13 := hid h13'
            rw [← hWd] at H12 Q0 Q1 Q2 H13 HX
            have HWD := hid hWd
            clear hatp hp hlb hatq hq hlb2 hMW hfbW hLW hUW h12 h13 hC' h13' hoa hob hnx hk hk2 hio hWd hab hab2
            go_upto_region 27 with fail
            rw [← HWD.out]
            clear k0 k1 k2 z0 z1 z2 g0 g1 g2 y0 y1 y2 y3 p0 p1 p2 q0 q1 q2
            obtain ⟨dn, hdn⟩ : ∃ dn, (!(decide ((⟨pa, pb, pc⟩ : U) = ⟨qa, qb, qc⟩))) = dn := ⟨_, rfl⟩
            have HDN := hid hdn
            clear hdn
            go_cut [144] from 138 to 144 (fun s92 wx => s92 = .bool dn ∧ Below Wd.heap.size Wd wx)
            case first =>
              have x0 := H13.out.cell 0
              have x1 := H13.out.cell 1
              have x2 := H13.out.cell 2
              have y2 := H12.out.cell 2
              simp only [List.getElem?_cons_zero, List.getElem?_cons_succ] at x0 x1 x2 y2
              have r0 := cell_regrown x0
              have r1 := cell_regrown x1
              have r2 := cell_regrown x2
              have s2 := cell_regrown y2
              have t0 := cell_regrown Q0.out
              have t1 := cell_regrown Q1.out
              have t2 := cell_regrown Q2.out
              clear x0 x1 x2 y2 Q0 Q1 Q2
              have hneq : ∀ w', (binOp .neq 34 (.agg #[.int .i64 pa, .int .i64 pb, .int .i64 pc]) (.agg #[.int .i64 qa, .int .i64 qb, .int .i64 qc])).run Tryd.prog w' = .ok (.bool (!decide ((⟨pa, pb, pc⟩ : U) = ⟨qa, qb, qc⟩))) w' := fun w' => funit_neq ⟨pa, pb, pc⟩ ⟨qa, qb, qc⟩ w'
              refine wp_region_quiet_below (by kernel_rfl) (by kernel_rfl) ?_
              repeat (first | go_big_quiet_step (fail) | quiet_step (fail))
              refine wpQuiet_nil ?_
              intro _ hw'
              obtain ⟨⟨dq, osq⟩, hw''⟩ := hw'
              subst hw''
              go_wp2_with fail
              go_meet
              case rel =>
                refine ⟨?_, below_regrown Wd dq osq⟩
                rw [← HDN.out]
                congr 1
                by_cases h1 : pa = qa <;> by_cases h2 : pb = qb <;> by_cases h3 : pc = qc <;> simp [h1, h2, h3]
            case rest =>
              obtain ⟨rfl, hBx⟩ := hcut
              have hX2 := HX.out
              have hM2 : MineN 3 bz w4 wc 34 (.slice (some ⟨lb, loff, none⟩) i lc) i (unitsC L) := ⟨ownsRow_chgN hX2.1.own (Chg.ofBelow (S := fun _ => False) hBx) (fun _ _ h => h), hX2.1.below.trans (hBx.mono hX2.1.base), Nat.le_trans hX2.1.base hBx.size⟩
              have hf2 := hX2.2.1.below hBx hX2.2.1.lt
              have hU2 : Uns wc uo RU.1 := SlV.below hX2.2.2 hBx
              have h13' := H13.out.below hBx H13.out.lt
              clear HX hX2 Q0 Q1 Q2 H12 H13 HWD hBx
              have HX := hid (And.intro hM2 (And.intro hf2 hU2))
              clear hM2 hf2 hU2
              by_cases hpq : (⟨pa, pb, pc⟩ : U) = ⟨qa, qb, qc⟩
              · have HR2 : Hid (unitsL I (L ++ [⟨pa, pb, pc⟩]) (S.drop (i + 1)) = RU) := by
                  unfold Hid
                  rw [← HR.out]
                  conv => rhs; unfold unitsL
                  rw [HUN.out, if_pos hpq]; exact (if_pos rfl).symm
                have hdn0 : dn = false := by rw [← HDN.out, decide_eq_true hpq]; rfl
                subst hdn0
                clear HDN
                have k0 := h13'.cell 0
                have k1 := h13'.cell 1
                have k2 := h13'.cell 2
                simp only [List.getElem?_cons_zero, List.getElem?_cons_succ] at k0 k1 k2
                clear h13' HR HUN hpq
                have hone : ∀ u ∈ (#[Value.int .i64 pa, Value.int .i64 pb, Value.int .i64 pc] : Array Value).toList, u.oneCell' = true := by intro u hu; simp at hu; rcases hu with rfl | rfl | rfl <;> rfl
                go_wp2_with (at_builtin; refine wpl_appN rfl _ _ 25 rfl 34 _ 3 24 Tryd.underlying25 Tryd.unitInfo rfl (by decide) _ _ _ _ _ HX.out.1 rfl #[.int .i64 pa, .int .i64 pb, .int .i64 pc] rfl hone (by first | rfl | (show Value.slice (some _) 1 1 = Value.slice (some _) 1 1; simp only [World.size_setCell])) hL1 hL2 ?_; intro g2 cap2 w9 hm9 hg9 hBg9 hat9)
                go_roundw
                case rel =>
                  refine ⟨i + 1, L ++ [⟨pa, pb, pc⟩], by go_num, by have := HIN.out; omega, ?_, blk_gr HX.out.1.own hg9 fb _ _ (by decide) HX.out.2.1, uns_grown HX.out.2.2 hg9 (fun h0 b' off' e q => by have := HUB.out h0 b' off' e; have := (HX.out.1.own.lt b' q).1; omega), hid (by rw [List.length_append, HL.out]; rfl), HR2⟩
                  have e1 : unitsC (L ++ [⟨pa, pb, pc⟩]) = unitsC L ++ [.int .i64 pa, .int .i64 pb, .int .i64 pc] := by simp [unitsC, uCells]
                  rw [e1]
                  exact hm9
                case measure => simp [intOf]; have := HIN.out; omega
              · have hdn0 : dn = true := by rw [← HDN.out, decide_eq_false hpq]; rfl
                subst hdn0
                have hR : RU = ([], 15) := by
                  rw [← HR.out]
                  conv => lhs; unfold unitsL
                  rw [HUN.out, if_neg hpq]; exact if_neg (show ¬ (15 : Int) = 0 by decide)
                have hXB := HX.out.1.below
                have hr1 : RU.1.length = 0 := by rw [hR]; rfl
                have hr2 : RU.2 = 15 := by rw [hR]
                have HXB := hid hXB
                rw [HRL.out] at hr1
                rw [HRE.out] at hr2
                subst hr1 hr2
                clear hR hXB HX HDN h13' HR HUN
                go_wp2_with fail
                go_ret
                exact ⟨rfl, by rw [HFBN.out]; exact HTB.out _ HXB.out⟩
          · have hk : 0 ≤ sa ∧ sa < (i : Int) := hoa (by decide)
            have hk2 : 0 ≤ sb ∧ sb < (i : Int) := hob (by decide)
            have hab2 := hab.2.2 (by show ¬ (3 : Int) = 1; decide)
            have hai : ¬ (i : Int) ≤ sa := by omega
            have hbi : ¬ (i : Int) ≤ sb := by omega
            obtain ⟨jp, rfl⟩ : ∃ j : Nat, sa = j := ⟨sa.toNat, by omega⟩
            obtain ⟨p, hp⟩ : ∃ u, L[jp]? = some u := ⟨_, List.getElem?_eq_getElem (by rw [HL.out]; omega)⟩
            have hatp : uAt L jp = p := by unfold uAt; rw [Int.toNat_natCast, List.getD_eq_getElem?_getD, hp]; rfl
            obtain ⟨lb, loff, hlo, hlb, p0, p1, p2⟩ := hLW.at hp
            subst hlo
            obtain ⟨jq, rfl⟩ : ∃ j : Nat, sb = j := ⟨sb.toNat, by omega⟩
            obtain ⟨q, hq⟩ : ∃ u, L[jq]? = some u := ⟨_, List.getElem?_eq_getElem (by rw [HL.out]; omega)⟩
            have hatq : uAt L jq = q := by unfold uAt; rw [Int.toNat_natCast, List.getD_eq_getElem?_getD, hq]; rfl
            obtain ⟨lb2, loff2, hlo, hlb2, q0, q1, q2⟩ := hLW.at hq
            obtain ⟨rfl, rfl⟩ : lb = lb2 ∧ loff = loff2 := by cases hlo; exact ⟨rfl, rfl⟩
            clear hlo
            have hjI : (jp : Int) < i := by omega
            have hjn : jp < i := by omega
            have hjI2 : (jq : Int) < i := by omega
            have hjn2 : jq < i := by omega
            have HUN : Hid (unitOf I L ⟨3, jp, jq, sn⟩ = (p, if p = q then 0 else 15)) := by unfold Hid unitOf; rw [if_neg (show ¬ (3 : Int) = 1 by decide), if_neg (show ¬ (3 : Int) = 4 by decide), if_neg (show ¬ (3 : Int) = 5 by decide), if_pos (show ((3 : Int) = 2 ∨ (3 : Int) = 3 ∨ (3 : Int) = 6) by decide), hatp, hatq]
            obtain ⟨pa, pb, pc⟩ := p
            obtain ⟨qa, qb, qc⟩ := q
            simp only at p0 p1 p2 q0 q1 q2
            have hC' : Chg (fun q => q = b13) W (((W.setCell ⟨b13, 0, none⟩ (.int .i64 pa)).setCell ⟨b13, 1, none⟩ (.int .i64 pb)).setCell ⟨b13, 2, none⟩ (.int .i64 pc)) := (((Chg.refl (fun q => q = b13) W).set (p := ⟨b13, 0, none⟩) rfl _).set (p := ⟨b13, 1, none⟩) rfl _).set (p := ⟨b13, 2, none⟩) rfl _
            have h13' : Blk (((W.setCell ⟨b13, 0, none⟩ (.int .i64 pa)).setCell ⟨b13, 1, none⟩ (.int .i64 pb)).setCell ⟨b13, 2, none⟩ (.int .i64 pc)) b13 34 [.int .i64 pa, .int .i64 pb, .int .i64 pc] := ((h13.set 0 _).set 1 _).set 2 _
            have HX := hid (show MineN 3 bz w4 _ 34 (.slice _ i lc) i (unitsC L) ∧ Blk _ fb 24 [.string nm, .int .i64 ver, .slice (some ⟨b, off, none⟩) n sc] ∧ Uns _ uo RU.1 from ⟨hMW.chg3 hC' (fun k hk => by have := HNE.out; have := hMW.own.lt k hk; have := HLT.out k hk; omega) (by have := HNE.out; omega), hfbW.chg hC' (by have := HNE.out; omega), uns_chg hUW hC' (fun h0 b' off' e hq => by have := HUB.out h0 b' off' e; have := HNE.out; omega)⟩)
            have k0 := h13'.cell 0
            have k1 := h13'.cell 1
            have k2 := h13'.cell 2
            simp only [List.getElem?_cons_zero, List.getElem?_cons_succ] at k0 k1 k2
            have z0 := h13.cell 0
            have z1 := h13.cell 1
            have z2 := h13.cell 2
            simp only [List.getElem?_cons_zero, List.getElem?_cons_succ] at z0 z1 z2
            have g0 := h13.free 0
            have g1 := h13.free 1
            have g2 := h13.free 2
            have y0 := h12.cell 0
            have y1 := h12.cell 1
            have y2 := h12.cell 2
            have y3 := h12.cell 3
            simp only [List.getElem?_cons_zero, List.getElem?_cons_succ] at y0 y1 y2 y3
            obtain ⟨Wd, hWd⟩ : ∃ Wd : World, Wd = (((W.setCell ⟨b13, 0, none⟩ (.int .i64 pa)).setCell ⟨b13, 1, none⟩ (.int .i64 pb)).setCell ⟨b13, 2, none⟩ (.int .i64 pc)) := ⟨_, rfl⟩
            have H12 := hid (h12.chg hC' (by have := HNE.out; omega))
            have Q0 := hid ((World.cell?_of_block (w := W) (a := ⟨lb, loff + jq * 3, none⟩) (hC'.block lb hlb (by have := HNE.out; have := HLB.out _ _ rfl; omega))).trans q0)
            have Q1 := hid ((World.cell?_of_block (w := W) (a := ⟨lb, loff + jq * 3 + 1, none⟩) (hC'.block lb hlb (by have := HNE.out; have := HLB.out _ _ rfl; omega))).trans q1)
            have Q2 := hid ((World.cell?_of_block (w := W) (a := ⟨lb, loff + jq * 3 + 2, none⟩) (hC'.block lb hlb (by have := HNE.out; have := HLB.out _ _ rfl; omega))).trans q2)
            have H13 := hid h13'
            rw [← hWd] at H12 Q0 Q1 Q2 H13 HX
            have HWD := hid hWd
            clear hatp hp hlb hatq hq hlb2 hMW hfbW hLW hUW h12 h13 hC' h13' hoa hob hnx hk hk2 hio hWd hab hab2
            go_upto_region 27 with fail
            rw [← HWD.out]
            clear k0 k1 k2 z0 z1 z2 g0 g1 g2 y0 y1 y2 y3 p0 p1 p2 q0 q1 q2
            obtain ⟨dn, hdn⟩ : ∃ dn, (!(decide ((⟨pa, pb, pc⟩ : U) = ⟨qa, qb, qc⟩))) = dn := ⟨_, rfl⟩
            have HDN := hid hdn
            clear hdn
            go_cut [144] from 138 to 144 (fun s92 wx => s92 = .bool dn ∧ Below Wd.heap.size Wd wx)
            case first =>
              have x0 := H13.out.cell 0
              have x1 := H13.out.cell 1
              have x2 := H13.out.cell 2
              have y2 := H12.out.cell 2
              simp only [List.getElem?_cons_zero, List.getElem?_cons_succ] at x0 x1 x2 y2
              have r0 := cell_regrown x0
              have r1 := cell_regrown x1
              have r2 := cell_regrown x2
              have s2 := cell_regrown y2
              have t0 := cell_regrown Q0.out
              have t1 := cell_regrown Q1.out
              have t2 := cell_regrown Q2.out
              clear x0 x1 x2 y2 Q0 Q1 Q2
              have hneq : ∀ w', (binOp .neq 34 (.agg #[.int .i64 pa, .int .i64 pb, .int .i64 pc]) (.agg #[.int .i64 qa, .int .i64 qb, .int .i64 qc])).run Tryd.prog w' = .ok (.bool (!decide ((⟨pa, pb, pc⟩ : U) = ⟨qa, qb, qc⟩))) w' := fun w' => funit_neq ⟨pa, pb, pc⟩ ⟨qa, qb, qc⟩ w'
              refine wp_region_quiet_below (by kernel_rfl) (by kernel_rfl) ?_
              repeat (first | go_big_quiet_step (fail) | quiet_step (fail))
              refine wpQuiet_nil ?_
              intro _ hw'
              obtain ⟨⟨dq, osq⟩, hw''⟩ := hw'
              subst hw''
              go_wp2_with fail
              go_meet
              case rel =>
                refine ⟨?_, below_regrown Wd dq osq⟩
                rw [← HDN.out]
                congr 1
                by_cases h1 : pa = qa <;> by_cases h2 : pb = qb <;> by_cases h3 : pc = qc <;> simp [h1, h2, h3]
            case rest =>
              obtain ⟨rfl, hBx⟩ := hcut
              have hX2 := HX.out
              have hM2 : MineN 3 bz w4 wc 34 (.slice (some ⟨lb, loff, none⟩) i lc) i (unitsC L) := ⟨ownsRow_chgN hX2.1.own (Chg.ofBelow (S := fun _ => False) hBx) (fun _ _ h => h), hX2.1.below.trans (hBx.mono hX2.1.base), Nat.le_trans hX2.1.base hBx.size⟩
              have hf2 := hX2.2.1.below hBx hX2.2.1.lt
              have hU2 : Uns wc uo RU.1 := SlV.below hX2.2.2 hBx
              have h13' := H13.out.below hBx H13.out.lt
              clear HX hX2 Q0 Q1 Q2 H12 H13 HWD hBx
              have HX := hid (And.intro hM2 (And.intro hf2 hU2))
              clear hM2 hf2 hU2
              by_cases hpq : (⟨pa, pb, pc⟩ : U) = ⟨qa, qb, qc⟩
              · have HR2 : Hid (unitsL I (L ++ [⟨pa, pb, pc⟩]) (S.drop (i + 1)) = RU) := by
                  unfold Hid
                  rw [← HR.out]
                  conv => rhs; unfold unitsL
                  rw [HUN.out, if_pos hpq]; exact (if_pos rfl).symm
                have hdn0 : dn = false := by rw [← HDN.out, decide_eq_true hpq]; rfl
                subst hdn0
                clear HDN
                have k0 := h13'.cell 0
                have k1 := h13'.cell 1
                have k2 := h13'.cell 2
                simp only [List.getElem?_cons_zero, List.getElem?_cons_succ] at k0 k1 k2
                clear h13' HR HUN hpq
                have hone : ∀ u ∈ (#[Value.int .i64 pa, Value.int .i64 pb, Value.int .i64 pc] : Array Value).toList, u.oneCell' = true := by intro u hu; simp at hu; rcases hu with rfl | rfl | rfl <;> rfl
                go_wp2_with (at_builtin; refine wpl_appN rfl _ _ 25 rfl 34 _ 3 24 Tryd.underlying25 Tryd.unitInfo rfl (by decide) _ _ _ _ _ HX.out.1 rfl #[.int .i64 pa, .int .i64 pb, .int .i64 pc] rfl hone (by first | rfl | (show Value.slice (some _) 1 1 = Value.slice (some _) 1 1; simp only [World.size_setCell])) hL1 hL2 ?_; intro g2 cap2 w9 hm9 hg9 hBg9 hat9)
                go_roundw
                case rel =>
                  refine ⟨i + 1, L ++ [⟨pa, pb, pc⟩], by go_num, by have := HIN.out; omega, ?_, blk_gr HX.out.1.own hg9 fb _ _ (by decide) HX.out.2.1, uns_grown HX.out.2.2 hg9 (fun h0 b' off' e q => by have := HUB.out h0 b' off' e; have := (HX.out.1.own.lt b' q).1; omega), hid (by rw [List.length_append, HL.out]; rfl), HR2⟩
                  have e1 : unitsC (L ++ [⟨pa, pb, pc⟩]) = unitsC L ++ [.int .i64 pa, .int .i64 pb, .int .i64 pc] := by simp [unitsC, uCells]
                  rw [e1]
                  exact hm9
                case measure => simp [intOf]; have := HIN.out; omega
              · have hdn0 : dn = true := by rw [← HDN.out, decide_eq_false hpq]; rfl
                subst hdn0
                have hR : RU = ([], 15) := by
                  rw [← HR.out]
                  conv => lhs; unfold unitsL
                  rw [HUN.out, if_neg hpq]; exact if_neg (show ¬ (15 : Int) = 0 by decide)
                have hXB := HX.out.1.below
                have hr1 : RU.1.length = 0 := by rw [hR]; rfl
                have hr2 : RU.2 = 15 := by rw [hR]
                have HXB := hid hXB
                rw [HRL.out] at hr1
                rw [HRE.out] at hr2
                subst hr1 hr2
                clear hR hXB HX HDN h13' HR HUN
                go_wp2_with fail
                go_ret
                exact ⟨rfl, by rw [HFBN.out]; exact HTB.out _ HXB.out⟩
          · have hk : 0 ≤ sa ∧ sa < (i : Int) := hoa (by decide)
            have hk2 : 0 ≤ sb ∧ sb < (i : Int) := hob (by decide)
            have hab2 := hab.2.2 (by show ¬ (4 : Int) = 1; decide)
            have hai : ¬ (i : Int) ≤ sa := by omega
            have hbi : ¬ (i : Int) ≤ sb := by omega
            obtain ⟨jp, rfl⟩ : ∃ j : Nat, sa = j := ⟨sa.toNat, by omega⟩
            obtain ⟨p, hp⟩ : ∃ u, L[jp]? = some u := ⟨_, List.getElem?_eq_getElem (by rw [HL.out]; omega)⟩
            have hatp : uAt L jp = p := by unfold uAt; rw [Int.toNat_natCast, List.getD_eq_getElem?_getD, hp]; rfl
            obtain ⟨lb, loff, hlo, hlb, p0, p1, p2⟩ := hLW.at hp
            subst hlo
            obtain ⟨jq, rfl⟩ : ∃ j : Nat, sb = j := ⟨sb.toNat, by omega⟩
            obtain ⟨q, hq⟩ : ∃ u, L[jq]? = some u := ⟨_, List.getElem?_eq_getElem (by rw [HL.out]; omega)⟩
            have hatq : uAt L jq = q := by unfold uAt; rw [Int.toNat_natCast, List.getD_eq_getElem?_getD, hq]; rfl
            obtain ⟨lb2, loff2, hlo, hlb2, q0, q1, q2⟩ := hLW.at hq
            obtain ⟨rfl, rfl⟩ : lb = lb2 ∧ loff = loff2 := by cases hlo; exact ⟨rfl, rfl⟩
            clear hlo
            have hjI : (jp : Int) < i := by omega
            have hjn : jp < i := by omega
            have hjI2 : (jq : Int) < i := by omega
            have hjn2 : jq < i := by omega
            obtain ⟨X, hX⟩ : ∃ X, mulU p q = X := ⟨_, rfl⟩
            obtain ⟨E, hE⟩ : ∃ E, mulE p q = E := ⟨_, rfl⟩
            have hmu := hid (fun w => HMUL.out p q w)
            rw [hX, hE] at hmu
            have HUN : Hid (unitOf I L ⟨4, jp, jq, sn⟩ = (X, E)) := by unfold Hid unitOf; rw [if_neg (show ¬ (4 : Int) = 1 by decide), if_pos rfl, hatp, hatq, hX, hE]
            obtain ⟨pa, pb, pc⟩ := p
            obtain ⟨qa, qb, qc⟩ := q
            obtain ⟨xa, xb, xc⟩ := X
            simp only [uV] at hmu p0 p1 p2 q0 q1 q2
            have H13 := hid h13
            have HMW := hid (And.intro hMW (And.intro hfbW hUW))
            have y0 := h12.cell 0
            have y1 := h12.cell 1
            have y2 := h12.cell 2
            have y3 := h12.cell 3
            simp only [List.getElem?_cons_zero, List.getElem?_cons_succ] at y0 y1 y2 y3
            clear hatp hp hlb hatq hq hlb2 hMW hfbW hLW hUW h12 h13 hoa hob hnx hk hk2 hio hX hE hab hab2
            go_upto_region 22 with fail
            clear y0 y3
            go_region_with
              (go_at_call 10; refine (hmu.out _).mono ?_; rintro e8 w8 ⟨rfl, B8⟩; have h8 := H13.out.drew.below B8 (by exact H13.out.lt); have z0 := h8.cell 0; have z1 := h8.cell 1; have z2 := h8.cell 2; have g0 := h8.free 0; have g1 := h8.free 1; have g2 := h8.free 2; simp only [List.getElem?_cons_zero, List.getElem?_cons_succ] at z0 z1 z2)
            all_goals
              obtain ⟨hMW, hfbW, hUW⟩ := HMW.out
              have hC8 : Chg (fun q => q = b13) W w8 := (Chg.refl (fun q => q = b13) W).drew.trans (Chg.ofBelow B8)
              have hC' : Chg (fun q => q = b13) W (((w8.setCell ⟨b13, 0, none⟩ (.int .i64 xa)).setCell ⟨b13, 1, none⟩ (.int .i64 xb)).setCell ⟨b13, 2, none⟩ (.int .i64 xc)) := ((hC8.set (p := ⟨b13, 0, none⟩) rfl _).set (p := ⟨b13, 1, none⟩) rfl _).set (p := ⟨b13, 2, none⟩) rfl _
              have h13' : Blk (((w8.setCell ⟨b13, 0, none⟩ (.int .i64 xa)).setCell ⟨b13, 1, none⟩ (.int .i64 xb)).setCell ⟨b13, 2, none⟩ (.int .i64 xc)) b13 34 [.int .i64 xa, .int .i64 xb, .int .i64 xc] := ((h8.set 0 _).set 1 _).set 2 _
              have HX := hid (show MineN 3 bz w4 _ 34 (.slice _ i lc) i (unitsC L) ∧ Blk _ fb 24 [.string nm, .int .i64 ver, .slice (some ⟨b, off, none⟩) n sc] ∧ Uns _ uo RU.1 from ⟨hMW.chg3 hC' (fun k hk => by have := HNE.out; have := hMW.own.lt k hk; have := HLT.out k hk; omega) (by have := HNE.out; omega), hfbW.chg hC' (by have := HNE.out; omega), uns_chg hUW hC' (fun h0 b' off' e hq => by have := HUB.out h0 b' off' e; have := HNE.out; omega)⟩)
              clear hmu p0 p1 p2 q0 q1 q2 y1 y2 hMW hfbW hUW hC' HMW H13 hjI hjn hjI2 hjn2 hC8 h8 B8
              by_cases hE0 : E = 0
              · subst hE0
                have HR2 : Hid (unitsL I (L ++ [⟨xa, xb, xc⟩]) (S.drop (i + 1)) = RU) := by
                  unfold Hid
                  rw [← HR.out]
                  conv => rhs; unfold unitsL
                  rw [HUN.out]; exact (if_pos rfl).symm
                have k0 := h13'.cell 0
                have k1 := h13'.cell 1
                have k2 := h13'.cell 2
                simp only [List.getElem?_cons_zero, List.getElem?_cons_succ] at k0 k1 k2
                clear h13' HR HUN
                have hone : ∀ u ∈ (#[Value.int .i64 xa, Value.int .i64 xb, Value.int .i64 xc] : Array Value).toList, u.oneCell' = true := by intro u hu; simp at hu; rcases hu with rfl | rfl | rfl <;> rfl
                go_wp2_with (at_builtin; refine wpl_appN rfl _ _ 25 rfl 34 _ 3 24 Tryd.underlying25 Tryd.unitInfo rfl (by decide) _ _ _ _ _ HX.out.1 rfl #[.int .i64 xa, .int .i64 xb, .int .i64 xc] rfl hone (by first | rfl | (show Value.slice (some _) 1 1 = Value.slice (some _) 1 1; simp only [World.size_setCell])) hL1 hL2 ?_; intro g2 cap2 w9 hm9 hg9 hBg9 hat9)
                go_roundw
                case rel =>
                  refine ⟨i + 1, L ++ [⟨xa, xb, xc⟩], by go_num, by have := HIN.out; omega, ?_, blk_gr HX.out.1.own hg9 fb _ _ (by decide) HX.out.2.1, uns_grown HX.out.2.2 hg9 (fun h0 b' off' e q => by have := HUB.out h0 b' off' e; have := (HX.out.1.own.lt b' q).1; omega), hid (by rw [List.length_append, HL.out]; rfl), HR2⟩
                  have e1 : unitsC (L ++ [⟨xa, xb, xc⟩]) = unitsC L ++ [.int .i64 xa, .int .i64 xb, .int .i64 xc] := by simp [unitsC, uCells]
                  rw [e1]
                  exact hm9
                case measure => simp [intOf]; have := HIN.out; omega
              · have hEb : (E == 0) = false := beq_eq_false_iff_ne.2 hE0
                have hR : RU = ([], E) := by
                  rw [← HR.out]
                  conv => lhs; unfold unitsL
                  rw [HUN.out]; exact if_neg hE0
                have hXB := HX.out.1.below
                have hr1 : RU.1.length = 0 := by rw [hR]; rfl
                have hr2 : RU.2 = E := by rw [hR]
                have HXB := hid hXB
                rw [HRL.out] at hr1
                rw [HRE.out] at hr2
                subst hr1 hr2
                clear hR hXB HX
                go_wp2_with fail
                go_ret
                exact ⟨rfl, by rw [HFBN.out]; exact HTB.out _ HXB.out⟩
          · have hk : 0 ≤ sa ∧ sa < (i : Int) := hoa (by decide)
            have hab2 := hab.2.2 (by show ¬ (5 : Int) = 1; decide)
            have hai : ¬ (i : Int) ≤ sa := by omega
            have hbi : ¬ (i : Int) ≤ sb := by omega
            obtain ⟨jp, rfl⟩ : ∃ j : Nat, sa = j := ⟨sa.toNat, by omega⟩
            obtain ⟨p, hp⟩ : ∃ u, L[jp]? = some u := ⟨_, List.getElem?_eq_getElem (by rw [HL.out]; omega)⟩
            have hatp : uAt L jp = p := by unfold uAt; rw [Int.toNat_natCast, List.getD_eq_getElem?_getD, hp]; rfl
            obtain ⟨lb, loff, hlo, hlb, p0, p1, p2⟩ := hLW.at hp
            subst hlo
            have hjI : (jp : Int) < i := by omega
            have hjn : jp < i := by omega
            have HR2 : Hid (unitsL I (L ++ [p]) (S.drop (i + 1)) = RU) := by
              unfold Hid
              rw [← HR.out]
              conv => rhs; unfold unitsL
              have hun : unitOf I L ⟨5, jp, sb, sn⟩ = (p, 0) := by unfold unitOf; rw [if_neg (show ¬ (5 : Int) = 1 by decide), if_neg (show ¬ (5 : Int) = 4 by decide), if_pos rfl, hatp]
              rw [hun]; exact (if_pos rfl).symm
            obtain ⟨pa, pb, pc⟩ := p
            simp only at p0 p1 p2
            have hC' : Chg (fun q => q = b13) W (((W.setCell ⟨b13, 0, none⟩ (.int .i64 pa)).setCell ⟨b13, 1, none⟩ (.int .i64 pb)).setCell ⟨b13, 2, none⟩ (.int .i64 pc)) := (((Chg.refl (fun q => q = b13) W).set (p := ⟨b13, 0, none⟩) rfl _).set (p := ⟨b13, 1, none⟩) rfl _).set (p := ⟨b13, 2, none⟩) rfl _
            have h13' : Blk (((W.setCell ⟨b13, 0, none⟩ (.int .i64 pa)).setCell ⟨b13, 1, none⟩ (.int .i64 pb)).setCell ⟨b13, 2, none⟩ (.int .i64 pc)) b13 34 [.int .i64 pa, .int .i64 pb, .int .i64 pc] := ((h13.set 0 _).set 1 _).set 2 _
            have HX := hid (show MineN 3 bz w4 _ 34 (.slice _ i lc) i (unitsC L) ∧ Blk _ fb 24 [.string nm, .int .i64 ver, .slice (some ⟨b, off, none⟩) n sc] ∧ Uns _ uo RU.1 from ⟨hMW.chg3 hC' (fun k hk => by have := HNE.out; have := hMW.own.lt k hk; have := HLT.out k hk; omega) (by have := HNE.out; omega), hfbW.chg hC' (by have := HNE.out; omega), uns_chg hUW hC' (fun h0 b' off' e hq => by have := HUB.out h0 b' off' e; have := HNE.out; omega)⟩)
            have k0 := h13'.cell 0
            have k1 := h13'.cell 1
            have k2 := h13'.cell 2
            simp only [List.getElem?_cons_zero, List.getElem?_cons_succ] at k0 k1 k2
            have z0 := h13.cell 0
            have z1 := h13.cell 1
            have z2 := h13.cell 2
            simp only [List.getElem?_cons_zero, List.getElem?_cons_succ] at z0 z1 z2
            have g0 := h13.free 0
            have g1 := h13.free 1
            have g2 := h13.free 2
            have y0 := h12.cell 0
            have y1 := h12.cell 1
            have y2 := h12.cell 2
            have y3 := h12.cell 3
            simp only [List.getElem?_cons_zero, List.getElem?_cons_succ] at y0 y1 y2 y3
            clear hatp hp hlb hMW hfbW hLW hUW h12 h13 hC' h13' hoa hob hnx hk HR hio hab hab2
            have hone : ∀ u ∈ (#[Value.int .i64 pa, Value.int .i64 pb, Value.int .i64 pc] : Array Value).toList, u.oneCell' = true := by intro u hu; simp at hu; rcases hu with rfl | rfl | rfl <;> rfl
            go_wp2_with (at_builtin; refine wpl_appN rfl _ _ 25 rfl 34 _ 3 24 Tryd.underlying25 Tryd.unitInfo rfl (by decide) _ _ _ _ _ HX.out.1 rfl #[.int .i64 pa, .int .i64 pb, .int .i64 pc] rfl hone (by first | rfl | (show Value.slice (some _) 1 1 = Value.slice (some _) 1 1; simp only [World.size_setCell])) hL1 hL2 ?_; intro g2 cap2 w9 hm9 hg9 hBg9 hat9)
            go_roundw
            case rel =>
              refine ⟨i + 1, L ++ [⟨pa, pb, pc⟩], by go_num, by have := HIN.out; omega, ?_, blk_gr HX.out.1.own hg9 fb _ _ (by decide) HX.out.2.1, uns_grown HX.out.2.2 hg9 (fun h0 b' off' e q => by have := HUB.out h0 b' off' e; have := (HX.out.1.own.lt b' q).1; omega), hid (by rw [List.length_append, HL.out]; rfl), HR2⟩
              have e1 : unitsC (L ++ [⟨pa, pb, pc⟩]) = unitsC L ++ [.int .i64 pa, .int .i64 pb, .int .i64 pc] := by simp [unitsC, uCells]
              rw [e1]
              exact hm9
            case measure => simp [intOf]; have := HIN.out; omega
          · have hk : 0 ≤ sa ∧ sa < (i : Int) := hoa (by decide)
            have hk2 : 0 ≤ sb ∧ sb < (i : Int) := hob (by decide)
            have hab2 := hab.2.2 (by show ¬ (6 : Int) = 1; decide)
            have hai : ¬ (i : Int) ≤ sa := by omega
            have hbi : ¬ (i : Int) ≤ sb := by omega
            obtain ⟨jp, rfl⟩ : ∃ j : Nat, sa = j := ⟨sa.toNat, by omega⟩
            obtain ⟨p, hp⟩ : ∃ u, L[jp]? = some u := ⟨_, List.getElem?_eq_getElem (by rw [HL.out]; omega)⟩
            have hatp : uAt L jp = p := by unfold uAt; rw [Int.toNat_natCast, List.getD_eq_getElem?_getD, hp]; rfl
            obtain ⟨lb, loff, hlo, hlb, p0, p1, p2⟩ := hLW.at hp
            subst hlo
            obtain ⟨jq, rfl⟩ : ∃ j : Nat, sb = j := ⟨sb.toNat, by omega⟩
            obtain ⟨q, hq⟩ : ∃ u, L[jq]? = some u := ⟨_, List.getElem?_eq_getElem (by rw [HL.out]; omega)⟩
            have hatq : uAt L jq = q := by unfold uAt; rw [Int.toNat_natCast, List.getD_eq_getElem?_getD, hq]; rfl
            obtain ⟨lb2, loff2, hlo, hlb2, q0, q1, q2⟩ := hLW.at hq
            obtain ⟨rfl, rfl⟩ : lb = lb2 ∧ loff = loff2 := by cases hlo; exact ⟨rfl, rfl⟩
            clear hlo
            have hjI : (jp : Int) < i := by omega
            have hjn : jp < i := by omega
            have hjI2 : (jq : Int) < i := by omega
            have hjn2 : jq < i := by omega
            have HUN : Hid (unitOf I L ⟨6, jp, jq, sn⟩ = (p, if p = q then 0 else 15)) := by unfold Hid unitOf; rw [if_neg (show ¬ (6 : Int) = 1 by decide), if_neg (show ¬ (6 : Int) = 4 by decide), if_neg (show ¬ (6 : Int) = 5 by decide), if_pos (show ((6 : Int) = 2 ∨ (6 : Int) = 3 ∨ (6 : Int) = 6) by decide), hatp, hatq]
            obtain ⟨pa, pb, pc⟩ := p
            obtain ⟨qa, qb, qc⟩ := q
            simp only at p0 p1 p2 q0 q1 q2
            have hC' : Chg (fun q => q = b13) W (((W.setCell ⟨b13, 0, none⟩ (.int .i64 pa)).setCell ⟨b13, 1, none⟩ (.int .i64 pb)).setCell ⟨b13, 2, none⟩ (.int .i64 pc)) := (((Chg.refl (fun q => q = b13) W).set (p := ⟨b13, 0, none⟩) rfl _).set (p := ⟨b13, 1, none⟩) rfl _).set (p := ⟨b13, 2, none⟩) rfl _
            have h13' : Blk (((W.setCell ⟨b13, 0, none⟩ (.int .i64 pa)).setCell ⟨b13, 1, none⟩ (.int .i64 pb)).setCell ⟨b13, 2, none⟩ (.int .i64 pc)) b13 34 [.int .i64 pa, .int .i64 pb, .int .i64 pc] := ((h13.set 0 _).set 1 _).set 2 _
            have HX := hid (show MineN 3 bz w4 _ 34 (.slice _ i lc) i (unitsC L) ∧ Blk _ fb 24 [.string nm, .int .i64 ver, .slice (some ⟨b, off, none⟩) n sc] ∧ Uns _ uo RU.1 from ⟨hMW.chg3 hC' (fun k hk => by have := HNE.out; have := hMW.own.lt k hk; have := HLT.out k hk; omega) (by have := HNE.out; omega), hfbW.chg hC' (by have := HNE.out; omega), uns_chg hUW hC' (fun h0 b' off' e hq => by have := HUB.out h0 b' off' e; have := HNE.out; omega)⟩)
            have k0 := h13'.cell 0
            have k1 := h13'.cell 1
            have k2 := h13'.cell 2
            simp only [List.getElem?_cons_zero, List.getElem?_cons_succ] at k0 k1 k2
            have z0 := h13.cell 0
            have z1 := h13.cell 1
            have z2 := h13.cell 2
            simp only [List.getElem?_cons_zero, List.getElem?_cons_succ] at z0 z1 z2
            have g0 := h13.free 0
            have g1 := h13.free 1
            have g2 := h13.free 2
            have y0 := h12.cell 0
            have y1 := h12.cell 1
            have y2 := h12.cell 2
            have y3 := h12.cell 3
            simp only [List.getElem?_cons_zero, List.getElem?_cons_succ] at y0 y1 y2 y3
            obtain ⟨Wd, hWd⟩ : ∃ Wd : World, Wd = (((W.setCell ⟨b13, 0, none⟩ (.int .i64 pa)).setCell ⟨b13, 1, none⟩ (.int .i64 pb)).setCell ⟨b13, 2, none⟩ (.int .i64 pc)) := ⟨_, rfl⟩
            have H12 := hid (h12.chg hC' (by have := HNE.out; omega))
            have Q0 := hid ((World.cell?_of_block (w := W) (a := ⟨lb, loff + jq * 3, none⟩) (hC'.block lb hlb (by have := HNE.out; have := HLB.out _ _ rfl; omega))).trans q0)
            have Q1 := hid ((World.cell?_of_block (w := W) (a := ⟨lb, loff + jq * 3 + 1, none⟩) (hC'.block lb hlb (by have := HNE.out; have := HLB.out _ _ rfl; omega))).trans q1)
            have Q2 := hid ((World.cell?_of_block (w := W) (a := ⟨lb, loff + jq * 3 + 2, none⟩) (hC'.block lb hlb (by have := HNE.out; have := HLB.out _ _ rfl; omega))).trans q2)
            have H13 := hid h13'
            rw [← hWd] at H12 Q0 Q1 Q2 H13 HX
            have HWD := hid hWd
            clear hatp hp hlb hatq hq hlb2 hMW hfbW hLW hUW h12 h13 hC' h13' hoa hob hnx hk hk2 hio hWd hab hab2
            go_upto_region 27 with fail
            rw [← HWD.out]
            clear k0 k1 k2 z0 z1 z2 g0 g1 g2 y0 y1 y2 y3 p0 p1 p2 q0 q1 q2
            obtain ⟨dn, hdn⟩ : ∃ dn, (!(decide ((⟨pa, pb, pc⟩ : U) = ⟨qa, qb, qc⟩))) = dn := ⟨_, rfl⟩
            have HDN := hid hdn
            clear hdn
            go_cut [144] from 138 to 144 (fun s92 wx => s92 = .bool dn ∧ Below Wd.heap.size Wd wx)
            case first =>
              have x0 := H13.out.cell 0
              have x1 := H13.out.cell 1
              have x2 := H13.out.cell 2
              have y2 := H12.out.cell 2
              simp only [List.getElem?_cons_zero, List.getElem?_cons_succ] at x0 x1 x2 y2
              have r0 := cell_regrown x0
              have r1 := cell_regrown x1
              have r2 := cell_regrown x2
              have s2 := cell_regrown y2
              have t0 := cell_regrown Q0.out
              have t1 := cell_regrown Q1.out
              have t2 := cell_regrown Q2.out
              clear x0 x1 x2 y2 Q0 Q1 Q2
              have hneq : ∀ w', (binOp .neq 34 (.agg #[.int .i64 pa, .int .i64 pb, .int .i64 pc]) (.agg #[.int .i64 qa, .int .i64 qb, .int .i64 qc])).run Tryd.prog w' = .ok (.bool (!decide ((⟨pa, pb, pc⟩ : U) = ⟨qa, qb, qc⟩))) w' := fun w' => funit_neq ⟨pa, pb, pc⟩ ⟨qa, qb, qc⟩ w'
              refine wp_region_quiet_below (by kernel_rfl) (by kernel_rfl) ?_
              repeat (first | go_big_quiet_step (fail) | quiet_step (fail))
              refine wpQuiet_nil ?_
              intro _ hw'
              obtain ⟨⟨dq, osq⟩, hw''⟩ := hw'
              subst hw''
              go_wp2_with fail
              go_meet
              case rel =>
                refine ⟨?_, below_regrown Wd dq osq⟩
                rw [← HDN.out]
                congr 1
                by_cases h1 : pa = qa <;> by_cases h2 : pb = qb <;> by_cases h3 : pc = qc <;> simp [h1, h2, h3]
            case rest =>
              obtain ⟨rfl, hBx⟩ := hcut
              have hX2 := HX.out
              have hM2 : MineN 3 bz w4 wc 34 (.slice (some ⟨lb, loff, none⟩) i lc) i (unitsC L) := ⟨ownsRow_chgN hX2.1.own (Chg.ofBelow (S := fun _ => False) hBx) (fun _ _ h => h), hX2.1.below.trans (hBx.mono hX2.1.base), Nat.le_trans hX2.1.base hBx.size⟩
              have hf2 := hX2.2.1.below hBx hX2.2.1.lt
              have hU2 : Uns wc uo RU.1 := SlV.below hX2.2.2 hBx
              have h13' := H13.out.below hBx H13.out.lt
              clear HX hX2 Q0 Q1 Q2 H12 H13 HWD hBx
              have HX := hid (And.intro hM2 (And.intro hf2 hU2))
              clear hM2 hf2 hU2
              by_cases hpq : (⟨pa, pb, pc⟩ : U) = ⟨qa, qb, qc⟩
              · have HR2 : Hid (unitsL I (L ++ [⟨pa, pb, pc⟩]) (S.drop (i + 1)) = RU) := by
                  unfold Hid
                  rw [← HR.out]
                  conv => rhs; unfold unitsL
                  rw [HUN.out, if_pos hpq]; exact (if_pos rfl).symm
                have hdn0 : dn = false := by rw [← HDN.out, decide_eq_true hpq]; rfl
                subst hdn0
                clear HDN
                have k0 := h13'.cell 0
                have k1 := h13'.cell 1
                have k2 := h13'.cell 2
                simp only [List.getElem?_cons_zero, List.getElem?_cons_succ] at k0 k1 k2
                clear h13' HR HUN hpq
                have hone : ∀ u ∈ (#[Value.int .i64 pa, Value.int .i64 pb, Value.int .i64 pc] : Array Value).toList, u.oneCell' = true := by intro u hu; simp at hu; rcases hu with rfl | rfl | rfl <;> rfl
                go_wp2_with (at_builtin; refine wpl_appN rfl _ _ 25 rfl 34 _ 3 24 Tryd.underlying25 Tryd.unitInfo rfl (by decide) _ _ _ _ _ HX.out.1 rfl #[.int .i64 pa, .int .i64 pb, .int .i64 pc] rfl hone (by first | rfl | (show Value.slice (some _) 1 1 = Value.slice (some _) 1 1; simp only [World.size_setCell])) hL1 hL2 ?_; intro g2 cap2 w9 hm9 hg9 hBg9 hat9)
                go_roundw
                case rel =>
                  refine ⟨i + 1, L ++ [⟨pa, pb, pc⟩], by go_num, by have := HIN.out; omega, ?_, blk_gr HX.out.1.own hg9 fb _ _ (by decide) HX.out.2.1, uns_grown HX.out.2.2 hg9 (fun h0 b' off' e q => by have := HUB.out h0 b' off' e; have := (HX.out.1.own.lt b' q).1; omega), hid (by rw [List.length_append, HL.out]; rfl), HR2⟩
                  have e1 : unitsC (L ++ [⟨pa, pb, pc⟩]) = unitsC L ++ [.int .i64 pa, .int .i64 pb, .int .i64 pc] := by simp [unitsC, uCells]
                  rw [e1]
                  exact hm9
                case measure => simp [intOf]; have := HIN.out; omega
              · have hdn0 : dn = true := by rw [← HDN.out, decide_eq_false hpq]; rfl
                subst hdn0
                have hR : RU = ([], 15) := by
                  rw [← HR.out]
                  conv => lhs; unfold unitsL
                  rw [HUN.out, if_neg hpq]; exact if_neg (show ¬ (15 : Int) = 0 by decide)
                have hXB := HX.out.1.below
                have hr1 : RU.1.length = 0 := by rw [hR]; rfl
                have hr2 : RU.2 = 15 := by rw [hR]
                have HXB := hid hXB
                rw [HRL.out] at hr1
                rw [HRE.out] at hr2
                subst hr1 hr2
                clear hR hXB HX HDN h13' HR HUN
                go_wp2_with fail
                go_ret
                exact ⟨rfl, by rw [HFBN.out]; exact HTB.out _ HXB.out⟩
          · have hab2 := hab.2.2 (by show ¬ (7 : Int) = 1; decide)
            have hai : ¬ (i : Int) ≤ sa := by omega
            have hbi : ¬ (i : Int) ≤ sb := by omega
            have HR2 : Hid (unitsL I (L ++ [u0]) (S.drop (i + 1)) = RU) := by
              unfold Hid
              rw [← HR.out]
              conv => rhs; unfold unitsL
              have hun : unitOf I L ⟨7, sa, sb, sn⟩ = (u0, 0) := by unfold unitOf; rw [if_neg (show ¬ (7 : Int) = 1 by decide), if_neg (show ¬ (7 : Int) = 4 by decide), if_neg (show ¬ (7 : Int) = 5 by decide), if_neg (show ¬ ((7 : Int) = 2 ∨ (7 : Int) = 3 ∨ (7 : Int) = 6) by decide)]
              rw [hun]; exact (if_pos rfl).symm
            have HX := hid (And.intro hMW (And.intro hfbW hUW))
            have z0 := h13.cell 0
            have z1 := h13.cell 1
            have z2 := h13.cell 2
            simp only [List.getElem?_cons_zero, List.getElem?_cons_succ] at z0 z1 z2
            have y0 := h12.cell 0
            have y1 := h12.cell 1
            have y2 := h12.cell 2
            have y3 := h12.cell 3
            simp only [List.getElem?_cons_zero, List.getElem?_cons_succ] at y0 y1 y2 y3
            clear hMW hfbW hLW hUW h12 h13 hoa hob hnx HR hio hab hab2
            have hone : ∀ u ∈ (#[Value.int .i64 0, Value.int .i64 0, Value.int .i64 0] : Array Value).toList, u.oneCell' = true := by intro u hu; simp at hu; rcases hu with rfl | rfl | rfl <;> rfl
            go_wp2_with (at_builtin; refine wpl_appN rfl _ _ 25 rfl 34 _ 3 24 Tryd.underlying25 Tryd.unitInfo rfl (by decide) _ _ _ _ _ HX.out.1 rfl #[.int .i64 0, .int .i64 0, .int .i64 0] rfl hone (by first | rfl | (show Value.slice (some _) 1 1 = Value.slice (some _) 1 1; simp only [World.size_setCell])) hL1 hL2 ?_; intro g2 cap2 w9 hm9 hg9 hBg9 hat9)
            go_roundw
            case rel =>
              refine ⟨i + 1, L ++ [u0], by go_num, by have := HIN.out; omega, ?_, blk_gr HX.out.1.own hg9 fb _ _ (by decide) HX.out.2.1, uns_grown HX.out.2.2 hg9 (fun h0 b' off' e q => by have := HUB.out h0 b' off' e; have := (HX.out.1.own.lt b' q).1; omega), hid (by rw [List.length_append, HL.out]; rfl), HR2⟩
              have e1 : unitsC (L ++ [u0]) = unitsC L ++ [.int .i64 0, .int .i64 0, .int .i64 0] := by simp [unitsC, uCells, u0]
              rw [e1]
              exact hm9
            case measure => simp [intOf]; have := HIN.out; omega
          · have hab2 := hab.2.2 (by show ¬ (8 : Int) = 1; decide)
            have hai : ¬ (i : Int) ≤ sa := by omega
            have hbi : ¬ (i : Int) ≤ sb := by omega
            have HR2 : Hid (unitsL I (L ++ [u0]) (S.drop (i + 1)) = RU) := by
              unfold Hid
              rw [← HR.out]
              conv => rhs; unfold unitsL
              have hun : unitOf I L ⟨8, sa, sb, sn⟩ = (u0, 0) := by unfold unitOf; rw [if_neg (show ¬ (8 : Int) = 1 by decide), if_neg (show ¬ (8 : Int) = 4 by decide), if_neg (show ¬ (8 : Int) = 5 by decide), if_neg (show ¬ ((8 : Int) = 2 ∨ (8 : Int) = 3 ∨ (8 : Int) = 6) by decide)]
              rw [hun]; exact (if_pos rfl).symm
            have HX := hid (And.intro hMW (And.intro hfbW hUW))
            have z0 := h13.cell 0
            have z1 := h13.cell 1
            have z2 := h13.cell 2
            simp only [List.getElem?_cons_zero, List.getElem?_cons_succ] at z0 z1 z2
            have y0 := h12.cell 0
            have y1 := h12.cell 1
            have y2 := h12.cell 2
            have y3 := h12.cell 3
            simp only [List.getElem?_cons_zero, List.getElem?_cons_succ] at y0 y1 y2 y3
            clear hMW hfbW hLW hUW h12 h13 hoa hob hnx HR hio hab hab2
            have hone : ∀ u ∈ (#[Value.int .i64 0, Value.int .i64 0, Value.int .i64 0] : Array Value).toList, u.oneCell' = true := by intro u hu; simp at hu; rcases hu with rfl | rfl | rfl <;> rfl
            go_wp2_with (at_builtin; refine wpl_appN rfl _ _ 25 rfl 34 _ 3 24 Tryd.underlying25 Tryd.unitInfo rfl (by decide) _ _ _ _ _ HX.out.1 rfl #[.int .i64 0, .int .i64 0, .int .i64 0] rfl hone (by first | rfl | (show Value.slice (some _) 1 1 = Value.slice (some _) 1 1; simp only [World.size_setCell])) hL1 hL2 ?_; intro g2 cap2 w9 hm9 hg9 hBg9 hat9)
            go_roundw
            case rel =>
              refine ⟨i + 1, L ++ [u0], by go_num, by have := HIN.out; omega, ?_, blk_gr HX.out.1.own hg9 fb _ _ (by decide) HX.out.2.1, uns_grown HX.out.2.2 hg9 (fun h0 b' off' e q => by have := HUB.out h0 b' off' e; have := (HX.out.1.own.lt b' q).1; omega), hid (by rw [List.length_append, HL.out]; rfl), HR2⟩
              have e1 : unitsC (L ++ [u0]) = unitsC L ++ [.int .i64 0, .int .i64 0, .int .i64 0] := by simp [unitsC, uCells, u0]
              rw [e1]
              exact hm9
            case measure => simp [intOf]; have := HIN.out; omega
          · have hab2 := hab.2.2 (by show ¬ (9 : Int) = 1; decide)
            have hai : ¬ (i : Int) ≤ sa := by omega
            have hbi : ¬ (i : Int) ≤ sb := by omega
            have HR2 : Hid (unitsL I (L ++ [u0]) (S.drop (i + 1)) = RU) := by
              unfold Hid
              rw [← HR.out]
              conv => rhs; unfold unitsL
              have hun : unitOf I L ⟨9, sa, sb, sn⟩ = (u0, 0) := by unfold unitOf; rw [if_neg (show ¬ (9 : Int) = 1 by decide), if_neg (show ¬ (9 : Int) = 4 by decide), if_neg (show ¬ (9 : Int) = 5 by decide), if_neg (show ¬ ((9 : Int) = 2 ∨ (9 : Int) = 3 ∨ (9 : Int) = 6) by decide)]
              rw [hun]; exact (if_pos rfl).symm
            have HX := hid (And.intro hMW (And.intro hfbW hUW))
            have z0 := h13.cell 0
            have z1 := h13.cell 1
            have z2 := h13.cell 2
            simp only [List.getElem?_cons_zero, List.getElem?_cons_succ] at z0 z1 z2
            have y0 := h12.cell 0
            have y1 := h12.cell 1
            have y2 := h12.cell 2
            have y3 := h12.cell 3
            simp only [List.getElem?_cons_zero, List.getElem?_cons_succ] at y0 y1 y2 y3
            clear hMW hfbW hLW hUW h12 h13 hoa hob hnx HR hio hab hab2
            have hone : ∀ u ∈ (#[Value.int .i64 0, Value.int .i64 0, Value.int .i64 0] : Array Value).toList, u.oneCell' = true := by intro u hu; simp at hu; rcases hu with rfl | rfl | rfl <;> rfl
            go_wp2_with (at_builtin; refine wpl_appN rfl _ _ 25 rfl 34 _ 3 24 Tryd.underlying25 Tryd.unitInfo rfl (by decide) _ _ _ _ _ HX.out.1 rfl #[.int .i64 0, .int .i64 0, .int .i64 0] rfl hone (by first | rfl | (show Value.slice (some _) 1 1 = Value.slice (some _) 1 1; simp only [World.size_setCell])) hL1 hL2 ?_; intro g2 cap2 w9 hm9 hg9 hBg9 hat9)
            go_roundw
            case rel =>
              refine ⟨i + 1, L ++ [u0], by go_num, by have := HIN.out; omega, ?_, blk_gr HX.out.1.own hg9 fb _ _ (by decide) HX.out.2.1, uns_grown HX.out.2.2 hg9 (fun h0 b' off' e q => by have := HUB.out h0 b' off' e; have := (HX.out.1.own.lt b' q).1; omega), hid (by rw [List.length_append, HL.out]; rfl), HR2⟩
              have e1 : unitsC (L ++ [u0]) = unitsC L ++ [.int .i64 0, .int .i64 0, .int .i64 0] := by simp [unitsC, uCells, u0]
              rw [e1]
              exact hm9
            case measure => simp [intOf]; have := HIN.out; omega
          · have hab2 := hab.2.2 (by show ¬ (10 : Int) = 1; decide)
            have hai : ¬ (i : Int) ≤ sa := by omega
            have hbi : ¬ (i : Int) ≤ sb := by omega
            have HR2 : Hid (unitsL I (L ++ [u0]) (S.drop (i + 1)) = RU) := by
              unfold Hid
              rw [← HR.out]
              conv => rhs; unfold unitsL
              have hun : unitOf I L ⟨10, sa, sb, sn⟩ = (u0, 0) := by unfold unitOf; rw [if_neg (show ¬ (10 : Int) = 1 by decide), if_neg (show ¬ (10 : Int) = 4 by decide), if_neg (show ¬ (10 : Int) = 5 by decide), if_neg (show ¬ ((10 : Int) = 2 ∨ (10 : Int) = 3 ∨ (10 : Int) = 6) by decide)]
              rw [hun]; exact (if_pos rfl).symm
            have HX := hid (And.intro hMW (And.intro hfbW hUW))
            have z0 := h13.cell 0
            have z1 := h13.cell 1
            have z2 := h13.cell 2
            simp only [List.getElem?_cons_zero, List.getElem?_cons_succ] at z0 z1 z2
            have y0 := h12.cell 0
            have y1 := h12.cell 1
            have y2 := h12.cell 2
            have y3 := h12.cell 3
            simp only [List.getElem?_cons_zero, List.getElem?_cons_succ] at y0 y1 y2 y3
            clear hMW hfbW hLW hUW h12 h13 hoa hob hnx HR hio hab hab2
            have hone : ∀ u ∈ (#[Value.int .i64 0, Value.int .i64 0, Value.int .i64 0] : Array Value).toList, u.oneCell' = true := by intro u hu; simp at hu; rcases hu with rfl | rfl | rfl <;> rfl
            go_wp2_with (at_builtin; refine wpl_appN rfl _ _ 25 rfl 34 _ 3 24 Tryd.underlying25 Tryd.unitInfo rfl (by decide) _ _ _ _ _ HX.out.1 rfl #[.int .i64 0, .int .i64 0, .int .i64 0] rfl hone (by first | rfl | (show Value.slice (some _) 1 1 = Value.slice (some _) 1 1; simp only [World.size_setCell])) hL1 hL2 ?_; intro g2 cap2 w9 hm9 hg9 hBg9 hat9)
            go_roundw
            case rel =>
              refine ⟨i + 1, L ++ [u0], by go_num, by have := HIN.out; omega, ?_, blk_gr HX.out.1.own hg9 fb _ _ (by decide) HX.out.2.1, uns_grown HX.out.2.2 hg9 (fun h0 b' off' e q => by have := HUB.out h0 b' off' e; have := (HX.out.1.own.lt b' q).1; omega), hid (by rw [List.length_append, HL.out]; rfl), HR2⟩
              have e1 : unitsC (L ++ [u0]) = unitsC L ++ [.int .i64 0, .int .i64 0, .int .i64 0] := by simp [unitsC, uCells, u0]
              rw [e1]
              exact hm9
            case measure => simp [intOf]; have := HIN.out; omega
        · have hinI : ¬ (i : Int) < n := by omega
          obtain rfl : i = n := by omega
          have hR : Hid (L = RU.1 ∧ RU.2 = 0) := by
            have := HR.out
            rw [List.drop_of_length_le (by rw [HN.out]; exact Nat.le_refl _)] at this
            unfold unitsL at this
            rw [← this]
            exact ⟨rfl, rfl⟩
          obtain ⟨lo, lc, hu10, hsl, -⟩ := hM.slv (by rw [unitsC_len, HL.out]; unfold maxLen; omega)
          subst hu10
          have hrl : rl = i := by rw [← HRL.out, ← hR.out.1, HL.out]
          have hre0 : re = 0 := by rw [← HRE.out, hR.out.2]
          subst hrl hre0
          have hsm := same_yes uo lo uc lc RU.1 wq hUq (by rw [← hR.out.1]; exact hsl) (by rw [HRL.out]; omega)
          rw [HRL.out] at hsm
          have HSM := hid hsm
          have HBE := hid (HTB.out _ hM.below)
          have HWS := hid (show fb ≤ wq.heap.size by have := hfb.lt; omega)
          clear hsm hM hfb hUq hsl HR hR hreb hre1
          go_wp2_with fail
          refine (HSM.out).mono ?_
          rintro e w9 ⟨rfl, hB9⟩
          go_wp2_with fail
          go_ret
          exact ⟨rfl, by rw [HFBN.out]; exact HBE.out.trans (hB9.mono HWS.out)⟩
  · rw [show (decide (f.steps.length ≤ 50) && decide (f.name.size ≤ 60)) = false by rw [Bool.eq_false_iff]; intro q; simp only [Bool.and_eq_true, decide_eq_true_eq] at q; exact hfew q]
    go_wp2_with fail
    go_ret
    exact ⟨rfl, by rw [HFBN.out]; exact hB1⟩
theorem unl_law (a0 : FlwA) (a1 : Option Addr) (len1 cap1 : Nat) (z1 : List U) (W : World) (w0 : FlwWf W a0.f a0.so a0.sc) (w1 : UnsArg W a1 len1 cap1 z1) :
    Calls Tryd.prog 3 #[a0.v, .slice a1 len1 cap1] W fun e w' => e = .returned (.bool true) ∧ Below W.heap.size W w' := by
  have h1 := w1.hlen
  subst h1
  exact unl_walk a0.f a0.so a0.sc z1 a1 cap1 W w0.steps.at_ w0.steps.hcap w0.steps.hmax w0.size (fun h => w1.at_ (by omega))
end Go.Proofs.YtogcnmjipfllaaaDoor
