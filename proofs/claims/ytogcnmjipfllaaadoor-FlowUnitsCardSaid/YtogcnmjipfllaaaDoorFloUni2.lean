/- flow: Units -/
import Derived.Test.YtogcnmjipfllaaaDoorFloUni
namespace Go.Proofs.YtogcnmjipfllaaaDoor
open Go.RowKit

theorem stepsB_all : ∀ (S : List Stp) (M : List Bool), stepsB M S = true → ∀ (i : Nat) (s : Stp), S[i]? = some s → stepB (M ++ maskL (S.take i)) s = true
  | [], _, _, _, _, h => by simp at h
  | a :: S, M, hs, 0, s, h => by
    simp only [List.getElem?_cons_zero, Option.some.injEq] at h
    subst h
    rw [stepsB_cons] at hs
    simp only [Bool.and_eq_true] at hs
    simpa [maskL] using hs.1
  | a :: S, M, hs, i + 1, s, h => by
    rw [stepsB_cons] at hs
    simp only [Bool.and_eq_true] at hs
    have := stepsB_all S _ hs.2 i s (by simpa using h)
    simpa [maskL, List.append_assoc] using this
theorem fvB_parts {f : Flw} (h : fvB f = true) : stepsB [] f.steps = true ∧ 1 ≤ f.steps.length ∧ f.steps.length ≤ 40 ∧ (maskL f.steps).getLast? = some true := by
  unfold fvB at h
  simp only [Bool.and_eq_true, decide_eq_true_eq, beq_iff_eq] at h
  exact ⟨h.1.2, h.1.1.1.2, h.1.1.2, h.2⟩
theorem MineN.chg3 {S : Nat → Prop} {sz B n : Nat} {w0 w w' : World} {E : TypeId} {v : Value} {xs : List Value} (h : MineN sz B w0 w E v n xs) (hc : Chg S w w') (hn : ∀ k, v.ownBlock = some k → ¬ S k) (hs : ∀ q, q < B → ¬ S q := by exact fun q hq => by omega) : MineN sz B w0 w' E v n xs :=
  ⟨ownsRow_chgN h.own hc hn, h.below.trans (hc.toBelow h.base (fun q hq => by rcases Nat.lt_or_ge q B with h1 | h1; exact absurd hq (hs q h1); exact h1)), Nat.le_trans h.base hc.size⟩
theorem Tryd.unitInfo : (Tryd.prog.info? 34).map (fun i => (i.zero, i.size, i.bytes)) = some (some (.agg #[.int .i64 0, .int .i64 0, .int .i64 0]), 3, 24) := by kernel_rfl
def UnitsPost (f : Flw) (I : List U) (w : World) (e : Ending) (w' : World) : Prop :=
  ∃ v n, e = .returned (.tuple #[v, .int .i64 (unitsF f I).2]) ∧ n = (unitsF f I).1.length ∧ MineN 3 w.heap.size w w' 34 v n (unitsC (unitsF f I).1)
theorem UnitsPost.bad {f : Flw} {I : List U} {w w' : World} {x : Int} (h : unitsF f I = ([], x)) (hB : Below w.heap.size w w') : UnitsPost f I w (.returned (.tuple #[.slice none 0 0, .int .i64 x])) w' :=
  ⟨_, 0, by rw [h], by rw [h]; rfl, by rw [h]; exact MineN.start hB hB.size⟩
set_option maxHeartbeats 8000000 in
set_option maxRecDepth 100000 in
theorem funits_any (f : Flw) (so : Option Addr) (sc : Nat) (I : List U) (io : Option Addr) (ic : Nat) (w : World) (hS : Stps w so f.steps) (hI : I.length = 4 → Uns w io I) (hs : f.name.size ≤ 1000000) :
    Calls Tryd.prog 8 #[fV f so sc, .slice io I.length ic] w (UnitsPost f I w) := by
  have hsl : f.steps.length ≤ maxLen := by
    have := hS.len
    rw [stpsCells_len] at this
    omega
  obtain ⟨RU, hRU⟩ : ∃ RU, unitsF f I = RU := ⟨_, rfl⟩
  have HRU := hid hRU
  have hbad : ∀ (w' : World) (x : Int), RU = ([], x) → Below w.heap.size w w' → UnitsPost f I w (.returned (.tuple #[.slice none 0 0, .int .i64 x])) w' := fun w' x h hB => UnitsPost.bad (hRU.trans h) hB
  have hpost : ∀ e w', (∃ v n, e = .returned (.tuple #[v, .int .i64 RU.2]) ∧ n = RU.1.length ∧ MineN 3 w.heap.size w w' 34 v n (unitsC RU.1)) → UnitsPost f I w e w' := by
    intro e w' h
    unfold UnitsPost
    rw [hRU]; exact h
  have HBAD := hid hbad
  have HPOST := hid hpost
  clear hbad hpost hRU
  have hfb := Blk.new w #[.string f.name, .int .i64 f.ver, .slice so f.steps.length sc] 24
  have hB0 := below_alloc w (.cells #[.string f.name, .int .i64 f.ver, .slice so f.steps.length sc] 24)
  have HV := hid (fvalid_any f so sc _ (SlV.below hS hB0) hs)
  have c0 := hfb.cell 0
  have c1 := hfb.cell 1
  have c2 := hfb.cell 2
  simp only [List.getElem?_cons_zero, List.getElem?_cons_succ] at c0 c1 c2
  have HPRE := hid (fun h : fvB f = true => fvB_parts h)
  unfold Hid unitsF at HRU
  replace HRU := hid HRU
  obtain ⟨nm, ver, S⟩ := f
  simp only [fV] at HV HPRE HRU hS hsl c0 c1 c2 ⊢
  go_enter Tryd.func8, Tryd.ntmps8
  go_wp2_with fail
  refine (HV.out).mono ?_
  rintro e w1 ⟨rfl, hB1⟩
  have hfb1 := hfb.below hB1 hfb.lt
  replace hB1 := hB0.trans (hB1.mono hB0.size)
  clear c0 c1 c2 hfb hB0 HV hs
  generalize hfbn : w.heap.size = fb at hfb1 hB1 ⊢
  have HFBN := hid hfbn
  clear hfbn
  obtain ⟨n, hn⟩ : ∃ n, S.length = n := ⟨_, rfl⟩
  obtain ⟨m, hm⟩ : ∃ m, I.length = m := ⟨_, rfl⟩
  rw [hn] at hfb1
  rw [hm] at HRU ⊢
  have HN := hid hn
  have HM := hid hm
  cases hv : fvB ⟨nm, ver, S⟩ with
  | false =>
    have hR : RU = ([], 1) := by rw [← HRU.out, hv]; rfl
    subst hR
    clear hn hm hsl
    go_wp2_with fail
    go_ret2
    exact HBAD.out _ _ rfl (by rw [HFBN.out]; exact hB1)
  | true =>
    have HPR := hid (HPRE.out hv)
    by_cases hm4 : m = 4
    · subst hm4
      have HRU2 := hid HRU.out
      rw [hv] at HRU2
      replace hI := hI hm
      clear HRU hn hm hsl hv HPRE
      go_wp2_with fail
      go_loopw [25] (fun s25 wr => ∃ i : Nat, s25 = .int .i64 i ∧ i ≤ 4 ∧ Below fb w wr ∧ Blk wr fb 24 [.string nm, .int .i64 ver, .slice so n sc] ∧ Hid (∀ j u, j < i → I[j]? = some u → mulE u u0 = 0)) (fun s25 _ => 4 - (intOf s25).toNat)
      case atStart => exact ⟨0, rfl, by omega, hB1, hfb1, hid (fun _ _ h => by omega)⟩
      case round =>
        clear hB1 hfb1
        obtain ⟨wk, hwk⟩ : ∃ wk : World, wk = wr := ⟨_, rfl⟩
        subst hwk
        obtain ⟨i, rfl, hi, hB, hfb, HALL⟩ := hrel
        by_cases hi4 : i < 4
        · have hi4I : (i : Int) < 4 := by omega
          obtain ⟨u, hu⟩ : ∃ u, I[i]? = some u := ⟨_, List.getElem?_eq_getElem (by rw [HM.out]; exact hi4)⟩
          have hIk : Uns wk io I := SlV.below hI (by rw [HFBN.out]; exact hB)
          obtain ⟨b, off, rfl, hbl, d0, d1, d2⟩ := hIk.at hu
          have HMUL := hid (fun w => mul_any u u0 w)
          have HU := hid hu
          obtain ⟨X, hX⟩ : ∃ X, mulU u u0 = X := ⟨_, rfl⟩
          obtain ⟨E, hE⟩ : ∃ E, mulE u u0 = E := ⟨_, rfl⟩
          rw [hX, hE] at HMUL
          have HE := hid hE
          obtain ⟨ua, ub, uc⟩ := u
          obtain ⟨xa, xb, xc⟩ := X
          simp only [uV, u0] at HMUL d0 d1 d2
          have HH := hid (And.intro hB hfb)
          clear hu hIk hbl hX hE hB hfb
          go_wp2_with fail
          refine (HMUL.out _).mono ?_
          rintro e w5 ⟨rfl, hB5⟩
          obtain ⟨hB, hfb⟩ := HH.out
          have hBa := hB.alloc (by have := hB.size; have := HFBN.out; omega) (.cells #[.int .i64 ua, .int .i64 ub, .int .i64 uc] 34)
          have hfa := (hfb.alloc (.cells #[.int .i64 ua, .int .i64 ub, .int .i64 uc] 34)).below hB5 (by have := hfb.lt; rw [World.size_alloc]; omega)
          have hfl := hfb.lt
          have hB9 := (hBa.trans (hB5.mono (by rw [World.size_alloc]; omega))).alloc (by have := hfa.lt; omega) (.cells #[.int .i64 xa, .int .i64 xb, .int .i64 xc] 34)
          have hf9 := hfa.alloc (.cells #[.int .i64 xa, .int .i64 xb, .int .i64 xc] 34)
          clear HMUL HH hB hfb hBa hfa hB5 d0 d1 d2 hfl
          by_cases hE0 : E = 0
          · subst hE0
            go_wp2_with fail
            go_roundw
            case rel =>
              refine ⟨i + 1, by go_num, by omega, hB9, hf9, hid (fun j v hj hv => ?_)⟩
              by_cases hji : j = i
              · subst hji
                rw [HU.out] at hv
                cases hv
                exact HE.out
              · exact HALL.out j v (by omega) hv
            case measure => simp [intOf]; omega
          · have hEb : (E == 0) = false := beq_eq_false_iff_ne.2 hE0
            have hR : RU = ([], 1) := by
              rw [← HRU2.out]
              refine if_neg ?_
              rintro ⟨-, -, h⟩
              have := List.all_eq_true.1 h _ (List.mem_of_getElem? HU.out)
              simp only [decide_eq_true_eq] at this
              rw [HE.out] at this
              exact hE0 this
            subst hR
            go_wp2_with fail
            go_ret2
            exact HBAD.out _ _ rfl (by rw [HFBN.out]; exact hB9)
        · have hi4I : ¬ (i : Int) < 4 := by omega
          have hR : Hid (unitsL I [] S = RU) := by
            unfold Hid
            rw [← HRU2.out]
            refine (if_pos ⟨by trivial, by trivial, List.all_eq_true.2 (fun u hu => ?_)⟩).symm
            obtain ⟨j, hj⟩ := List.getElem?_of_mem hu
            have hjl := (List.getElem?_eq_some_iff.1 hj).1
            have hM4 := HM.out
            exact decide_eq_true (HALL.out j u (by omega) hj)
          obtain rfl : i = 4 := by omega
          have hBf := hB.size
          have c2 := hfb.cell 2
          simp only [List.getElem?_cons_zero, List.getElem?_cons_succ] at c2
          have hM0 : MineN 3 fb w wk 34 (.slice none 0 0) 0 [] := MineN.start hB (by have := HFBN.out; omega)
          have hn40 : n ≤ 40 := by have h1 : S.length ≤ 40 := HPR.out.2.2.1; have := HN.out; omega
          have HFB := hid hfb
          have HMUL := hid (fun u v w => mul_any u v w)
          have HCH := hid (fun i s h => stepsB_all S [] HPR.out.1 i s h)
          clear hB hBf hfb HALL HRU2 HPR hi hi4
          go_wp2_with fail
          go_loopw [10, 41] (fun s10 s41 wr => ∃ (i : Nat) (L : List U), s41 = .int .i64 i ∧ i ≤ n ∧ MineN 3 fb w wr 34 s10 i (unitsC L) ∧ Blk wr fb 24 [.string nm, .int .i64 ver, .slice so n sc] ∧ Hid (L.length = i) ∧ Hid (unitsL I L (S.drop i) = RU)) (fun _ s41 _ => n - (intOf s41).toNat)
          case atStart => exact ⟨0, [], rfl, by omega, hM0, HFB.out, hid rfl, hR⟩
          case round =>
            clear hM0 HFB hR c2
            obtain ⟨wq, hwq⟩ : ∃ wq : World, wq = wr := ⟨_, rfl⟩
            subst hwq
            obtain ⟨i, L, rfl, hi, hM, hfb, HL, HR⟩ := hrel
            by_cases hin : i < n
            · have hinI : (i : Int) < n := by omega
              obtain ⟨s, hsi⟩ : ∃ s, S[i]? = some s := ⟨_, List.getElem?_eq_getElem (by rw [HN.out]; exact hin)⟩
              have hSt : Stps wq so S := SlV.below hS (by rw [HFBN.out]; exact hM.below)
              obtain ⟨b, off, hso, hbl, d0, d1, d2, d3⟩ := hSt.at hsi
              have hdrop : S.drop i = s :: S.drop (i + 1) := by
                rw [List.drop_eq_getElem_cons (by rw [HN.out]; exact hin)]
                have := List.getElem?_eq_getElem (show i < S.length by rw [HN.out]; exact hin)
                rw [hsi] at this
                rw [← Option.some.inj this]
              have hst := HCH.out i s hsi
              rw [List.nil_append] at hst
              obtain ⟨hio, hn0, hnx, hoa, hob⟩ := stepB_ops hst
              rw [maskL_len, List.length_take, Nat.min_eq_left (by have := HN.out; omega)] at hoa hob
              rw [hdrop] at HR
              subst hso
              obtain ⟨sop, sa, sb, sn⟩ := s
              simp only at d0 d1 d2 d3 hio hn0 hnx hoa hob
              have HSZ := hid (show fb ≤ wq.heap.size by have := hM.base; exact this)
              have HH := hid (And.intro hM hfb)
              clear hdrop hst hsi hSt hbl hM hfb
              go_upto_region 15 with fail
              obtain ⟨hM, hfb⟩ := HH.out
              obtain ⟨lo, lc, hu10, hsl, -⟩ := hM.slv (by rw [unitsC_len, HL.out]; unfold maxLen; omega)
              subst hu10
              have h12 := (Blk.new wq #[.int .i64 sop, .int .i64 sa, .int .i64 sb, .int .i64 sn] 32).alloc (.cells #[.int .i64 0, .int .i64 0, .int .i64 0] 34)
              have h13 := blk_n (wq.alloc (.cells #[.int .i64 sop, .int .i64 sa, .int .i64 sb, .int .i64 sn] 32)) (wq.heap.size + 1) #[.int .i64 0, .int .i64 0, .int .i64 0] 34 (by simp)
              have hBW : Below wq.heap.size wq ((wq.alloc (.cells #[.int .i64 sop, .int .i64 sa, .int .i64 sb, .int .i64 sn] 32)).alloc (.cells #[.int .i64 0, .int .i64 0, .int .i64 0] 34)) := (below_alloc _ _).alloc (by simp) _
              have hMW0 : MineN 3 fb w _ 34 (.slice lo i lc) i (unitsC L) := (hM.alloc (.cells #[.int .i64 sop, .int .i64 sa, .int .i64 sb, .int .i64 sn] 32)).alloc (.cells #[.int .i64 0, .int .i64 0, .int .i64 0] 34)
              have hfbW0 := (hfb.alloc (.cells #[.int .i64 sop, .int .i64 sa, .int .i64 sb, .int .i64 sn] 32)).alloc (.cells #[.int .i64 0, .int .i64 0, .int .i64 0] 34)
              have hLW0 : Uns _ lo L := SlV.below hsl hBW
              have hlts : ∀ k, (Value.slice lo i lc).ownBlock = some k → k < wq.heap.size := fun k hk => (hM.own.lt k hk).2
              have hltb : ∀ b off, lo = some ⟨b, off, none⟩ → b < wq.heap.size := fun b off e => (hM.own.lt b (by rw [e]; rfl)).2
              have hnel := hfb.lt
              obtain ⟨W, hW⟩ : ∃ W : World, W = ((wq.alloc (.cells #[.int .i64 sop, .int .i64 sa, .int .i64 sb, .int .i64 sn] 32)).alloc (.cells #[.int .i64 0, .int .i64 0, .int .i64 0] 34)) := ⟨_, rfl⟩
              rw [← hW] at h12 h13 hMW0 hfbW0 hLW0 ⊢
              clear hW hBW hM hfb hsl HH d0 d1 d2 d3
              generalize hb13 : wq.heap.size + 1 = b13 at *
              generalize wq.heap.size = b12 at *
              have HNE := hid (show b12 + 1 = b13 ∧ fb < b12 from ⟨hb13, hnel⟩)
              have HLT := hid hlts
              have HLB := hid hltb
              clear hb13 hnel hlts hltb
              have hMW := hMW0
              have hfbW := hfbW0
              have hLW := hLW0
              clear hMW0 hfbW0 hLW0
              have HIN := hid hin
              have hL1 : i + 1 ≤ maxLen := by unfold maxLen; omega
              have hL2 : (i + 1) * 24 ≤ 140737488355328 := by omega
              clear hin
              have hten : 1 ≤ sop ∧ sop ≤ 10 := by unfold isO at hio; simpa using hio
              rcases ten hten with rfl | rfl | rfl | rfl | rfl | rfl | rfl | rfl | rfl | rfl
              · obtain ⟨j, rfl⟩ : ∃ j : Nat, sn = j := ⟨sn.toNat, by omega⟩
                have hx3 : (opr 1).x = 3 := rfl
                rw [hx3] at hnx
                have hj4 : (j : Int) < 4 := by omega
                have hj4n : j < 4 := by omega
                obtain ⟨u, hu⟩ : ∃ u, I[j]? = some u := ⟨_, List.getElem?_eq_getElem (by rw [HM.out]; exact hj4n)⟩
                have hat : uAt I j = u := by unfold uAt; rw [Int.toNat_natCast, List.getD_eq_getElem?_getD, hu]; rfl
                obtain ⟨ib, ioff, hio', hib, e0, e1, e2⟩ := (show Uns W io I from SlV.below hI (by rw [HFBN.out]; exact hMW.below)).at hu
                subst hio'
                have HR2 : Hid (unitsL I (L ++ [u]) (S.drop (i + 1)) = RU) := by
                  unfold Hid
                  rw [← HR.out]
                  conv => rhs; unfold unitsL
                  have hun : unitOf I L ⟨1, sa, sb, j⟩ = (u, 0) := by unfold unitOf; rw [if_pos rfl, hat]
                  rw [hun]; exact (if_pos rfl).symm
                obtain ⟨ua, ub, uc⟩ := u
                simp only at e0 e1 e2
                have hC' : Chg (fun q => q = b13) W (((W.setCell ⟨b13, 0, none⟩ (.int .i64 ua)).setCell ⟨b13, 1, none⟩ (.int .i64 ub)).setCell ⟨b13, 2, none⟩ (.int .i64 uc)) := (((Chg.refl (fun q => q = b13) W).set (p := ⟨b13, 0, none⟩) rfl _).set (p := ⟨b13, 1, none⟩) rfl _).set (p := ⟨b13, 2, none⟩) rfl _
                have h13' : Blk (((W.setCell ⟨b13, 0, none⟩ (.int .i64 ua)).setCell ⟨b13, 1, none⟩ (.int .i64 ub)).setCell ⟨b13, 2, none⟩ (.int .i64 uc)) b13 34 [.int .i64 ua, .int .i64 ub, .int .i64 uc] := ((h13.set 0 _).set 1 _).set 2 _
                have HX := hid (show MineN 3 fb w _ 34 (.slice _ i lc) i (unitsC L) ∧ Blk _ fb 24 [.string nm, .int .i64 ver, .slice (some ⟨b, off, none⟩) n sc] from ⟨hMW.chg3 hC' (fun k hk => by have := HNE.out; have := hMW.own.lt k hk; have := HLT.out k hk; omega) (by have := HNE.out; omega), hfbW.chg hC' (by have := HNE.out; omega)⟩)
                have k0 := h13'.cell 0
                have k1 := h13'.cell 1
                have k2 := h13'.cell 2
                simp only [List.getElem?_cons_zero, List.getElem?_cons_succ] at k0 k1 k2
                have z0 := h13.cell 0
                have z1 := h13.cell 1
                have z2 := h13.cell 2
                simp only [List.getElem?_cons_zero, List.getElem?_cons_succ] at z0 z1 z2
                have g0 := h13.free 0
                have g1 := h13.free 1
                have g2 := h13.free 2
                have y3 := h12.cell 3
                have y0 := h12.cell 0
                simp only [List.getElem?_cons_zero, List.getElem?_cons_succ] at y3 y0
                clear hat hu hib hMW hfbW hLW h12 h13 hC' h13' hoa hob hnx hn0 hx3 HR hio
                have hone : ∀ u ∈ (#[Value.int .i64 ua, Value.int .i64 ub, Value.int .i64 uc] : Array Value).toList, u.oneCell' = true := by intro u hu; simp at hu; rcases hu with rfl | rfl | rfl <;> rfl
                go_wp2_with (at_builtin; refine wpl_appN rfl _ _ 25 rfl 34 _ 3 24 Tryd.underlying25 Tryd.unitInfo rfl (by decide) _ _ _ _ _ HX.out.1 rfl #[.int .i64 ua, .int .i64 ub, .int .i64 uc] rfl hone (by first | rfl | (show Value.slice (some _) 1 1 = Value.slice (some _) 1 1; simp only [World.size_setCell])) hL1 hL2 ?_; intro g2 cap2 w9 hm9 hg9 hBg9 hat9)
                go_roundw
                case rel =>
                  refine ⟨i + 1, L ++ [⟨ua, ub, uc⟩], by go_num, by have := HIN.out; omega, ?_, blk_gr HX.out.1.own hg9 fb _ _ (by decide) HX.out.2, hid (by rw [List.length_append, HL.out]; rfl), HR2⟩
                  have e1 : unitsC (L ++ [⟨ua, ub, uc⟩]) = unitsC L ++ [.int .i64 ua, .int .i64 ub, .int .i64 uc] := by simp [unitsC, uCells]
                  rw [e1]
                  exact hm9
                case measure => simp [intOf]; have := HIN.out; omega
              · have hk : 0 ≤ sa ∧ sa < (i : Int) := hoa (by decide)
                have hk2 : 0 ≤ sb ∧ sb < (i : Int) := hob (by decide)
                obtain ⟨jp, rfl⟩ : ∃ j : Nat, sa = j := ⟨sa.toNat, by omega⟩
                obtain ⟨p, hp⟩ : ∃ u, L[jp]? = some u := ⟨_, List.getElem?_eq_getElem (by rw [HL.out]; omega)⟩
                have hatp : uAt L jp = p := by unfold uAt; rw [Int.toNat_natCast, List.getD_eq_getElem?_getD, hp]; rfl
                obtain ⟨lb, loff, hlo, hlb, p0, p1, p2⟩ := hLW.at hp
                subst hlo
                obtain ⟨jq, rfl⟩ : ∃ j : Nat, sb = j := ⟨sb.toNat, by omega⟩
                obtain ⟨q, hq⟩ : ∃ u, L[jq]? = some u := ⟨_, List.getElem?_eq_getElem (by rw [HL.out]; omega)⟩
                have hatq : uAt L jq = q := by unfold uAt; rw [Int.toNat_natCast, List.getD_eq_getElem?_getD, hq]; rfl
                obtain ⟨lb2, loff2, hlo, hlb2, q0, q1, q2⟩ := hLW.at hq
                obtain ⟨rfl, rfl⟩ : lb = lb2 ∧ loff = loff2 := by cases hlo; exact ⟨rfl, rfl⟩
                clear hlo
                have hjI : (jp : Int) < i := by omega
                have hjn : jp < i := by omega
                have hjI2 : (jq : Int) < i := by omega
                have hjn2 : jq < i := by omega
                have HUN : Hid (unitOf I L ⟨2, jp, jq, sn⟩ = (p, if p = q then 0 else 15)) := by unfold Hid unitOf; rw [if_neg (show ¬ (2 : Int) = 1 by decide), if_neg (show ¬ (2 : Int) = 4 by decide), if_neg (show ¬ (2 : Int) = 5 by decide), if_pos (show ((2 : Int) = 2 ∨ (2 : Int) = 3 ∨ (2 : Int) = 6) by decide), hatp, hatq]
                have HPQ := hid (fun (h1 : p.a = q.a) (h2 : p.b = q.b) (h3 : p.c = q.c) => (by cases p; cases q; simp only at h1 h2 h3; subst h1 h2 h3; rfl : p = q))
                obtain ⟨pa, pb, pc⟩ := p
                obtain ⟨qa, qb, qc⟩ := q
                simp only at p0 p1 p2 q0 q1 q2 HPQ
                have hC' : Chg (fun q => q = b13) W (((W.setCell ⟨b13, 0, none⟩ (.int .i64 pa)).setCell ⟨b13, 1, none⟩ (.int .i64 pb)).setCell ⟨b13, 2, none⟩ (.int .i64 pc)) := (((Chg.refl (fun q => q = b13) W).set (p := ⟨b13, 0, none⟩) rfl _).set (p := ⟨b13, 1, none⟩) rfl _).set (p := ⟨b13, 2, none⟩) rfl _
                have h13' : Blk (((W.setCell ⟨b13, 0, none⟩ (.int .i64 pa)).setCell ⟨b13, 1, none⟩ (.int .i64 pb)).setCell ⟨b13, 2, none⟩ (.int .i64 pc)) b13 34 [.int .i64 pa, .int .i64 pb, .int .i64 pc] := ((h13.set 0 _).set 1 _).set 2 _
                have HX := hid (show MineN 3 fb w _ 34 (.slice _ i lc) i (unitsC L) ∧ Blk _ fb 24 [.string nm, .int .i64 ver, .slice (some ⟨b, off, none⟩) n sc] from ⟨hMW.chg3 hC' (fun k hk => by have := HNE.out; have := hMW.own.lt k hk; have := HLT.out k hk; omega) (by have := HNE.out; omega), hfbW.chg hC' (by have := HNE.out; omega)⟩)
                have k0 := h13'.cell 0
                have k1 := h13'.cell 1
                have k2 := h13'.cell 2
                simp only [List.getElem?_cons_zero, List.getElem?_cons_succ] at k0 k1 k2
                have z0 := h13.cell 0
                have z1 := h13.cell 1
                have z2 := h13.cell 2
                simp only [List.getElem?_cons_zero, List.getElem?_cons_succ] at z0 z1 z2
                have g0 := h13.free 0
                have g1 := h13.free 1
                have g2 := h13.free 2
                have Wd : ∃ Wd : World, Wd = (((W.setCell ⟨b13, 0, none⟩ (.int .i64 pa)).setCell ⟨b13, 1, none⟩ (.int .i64 pb)).setCell ⟨b13, 2, none⟩ (.int .i64 pc)) := ⟨_, rfl⟩
                have y1 := h12.cell 1
                have y2 := h12.cell 2
                have y0 := h12.cell 0
                simp only [List.getElem?_cons_zero, List.getElem?_cons_succ] at y1 y2 y0
                obtain ⟨Wd, hWd⟩ := Wd
                have H12 := hid (h12.chg hC' (by have := HNE.out; omega))
                have Q0 := hid ((World.cell?_of_block (w := W) (a := ⟨lb, loff + jq * 3, none⟩) (hC'.block lb hlb (by have := HNE.out; have := HLB.out _ _ rfl; omega))).trans q0)
                have Q1 := hid ((World.cell?_of_block (w := W) (a := ⟨lb, loff + jq * 3 + 1, none⟩) (hC'.block lb hlb (by have := HNE.out; have := HLB.out _ _ rfl; omega))).trans q1)
                have Q2 := hid ((World.cell?_of_block (w := W) (a := ⟨lb, loff + jq * 3 + 2, none⟩) (hC'.block lb hlb (by have := HNE.out; have := HLB.out _ _ rfl; omega))).trans q2)
                have H13 := hid h13'
                rw [← hWd] at H12 Q0 Q1 Q2 H13 HX
                have HWD := hid hWd
                clear hatp hp hlb hatq hq hlb2 hMW hfbW hLW h12 h13 hC' h13' hoa hob hnx hn0 hk hk2 hio hWd
                go_upto_region 27 with fail
                rw [← HWD.out]
                clear k0 k1 k2 z0 z1 z2 g0 g1 g2 y0 y1 y2 p0 p1 p2 q0 q1 q2
                obtain ⟨dn, hdn⟩ : ∃ dn, (!(decide ((⟨pa, pb, pc⟩ : U) = ⟨qa, qb, qc⟩))) = dn := ⟨_, rfl⟩
                have HDN := hid hdn
                clear hdn
                go_cut [92] from 86 to 92 (fun s92 wx => s92 = .bool dn ∧ Below Wd.heap.size Wd wx)
                case first =>
                  have x0 := H13.out.cell 0
                  have x1 := H13.out.cell 1
                  have x2 := H13.out.cell 2
                  have y2 := H12.out.cell 2
                  simp only [List.getElem?_cons_zero, List.getElem?_cons_succ] at x0 x1 x2 y2
                  have r0 := cell_regrown x0
                  have r1 := cell_regrown x1
                  have r2 := cell_regrown x2
                  have s2 := cell_regrown y2
                  have t0 := cell_regrown Q0.out
                  have t1 := cell_regrown Q1.out
                  have t2 := cell_regrown Q2.out
                  clear x0 x1 x2 y2 Q0 Q1 Q2
                  have hneq : ∀ w', (binOp .neq 34 (.agg #[.int .i64 pa, .int .i64 pb, .int .i64 pc]) (.agg #[.int .i64 qa, .int .i64 qb, .int .i64 qc])).run Tryd.prog w' = .ok (.bool (!decide ((⟨pa, pb, pc⟩ : U) = ⟨qa, qb, qc⟩))) w' := fun w' => funit_neq ⟨pa, pb, pc⟩ ⟨qa, qb, qc⟩ w'
                  refine wp_region_quiet_below (by kernel_rfl) (by kernel_rfl) ?_
                  repeat (first | go_big_quiet_step (fail) | quiet_step (fail))
                  refine wpQuiet_nil ?_
                  intro _ hw'
                  obtain ⟨⟨dq, osq⟩, hw''⟩ := hw'
                  subst hw''
                  go_wp2_with fail
                  go_meet
                  case rel =>
                    refine ⟨?_, below_regrown Wd dq osq⟩
                    rw [← HDN.out]
                    congr 1
                    by_cases h1 : pa = qa <;> by_cases h2 : pb = qb <;> by_cases h3 : pc = qc <;> simp [h1, h2, h3]
                case rest =>
                  obtain ⟨rfl, hBx⟩ := hcut
                  have hX2 := HX.out
                  have hM2 : MineN 3 fb w wc 34 (.slice (some ⟨lb, loff, none⟩) i lc) i (unitsC L) := ⟨ownsRow_chgN hX2.1.own (Chg.ofBelow (S := fun _ => False) hBx) (fun _ _ h => h), hX2.1.below.trans (hBx.mono hX2.1.base), Nat.le_trans hX2.1.base hBx.size⟩
                  have hf2 := hX2.2.below hBx hX2.2.lt
                  have h13' := H13.out.below hBx H13.out.lt
                  clear HX hX2 Q0 Q1 Q2 H12 H13 HWD hBx
                  have HX := hid (And.intro hM2 hf2)
                  clear hM2 hf2
                  by_cases hpq : (⟨pa, pb, pc⟩ : U) = ⟨qa, qb, qc⟩
                  · have HR2 : Hid (unitsL I (L ++ [⟨pa, pb, pc⟩]) (S.drop (i + 1)) = RU) := by
                      unfold Hid
                      rw [← HR.out]
                      conv => rhs; unfold unitsL
                      rw [HUN.out, if_pos hpq]; exact (if_pos rfl).symm
                    have hdn0 : dn = false := by rw [← HDN.out, decide_eq_true hpq]; rfl
                    subst hdn0
                    clear HDN
                    have k0 := h13'.cell 0
                    have k1 := h13'.cell 1
                    have k2 := h13'.cell 2
                    simp only [List.getElem?_cons_zero, List.getElem?_cons_succ] at k0 k1 k2
                    clear h13' HR HUN hpq
                    have hone : ∀ u ∈ (#[Value.int .i64 pa, Value.int .i64 pb, Value.int .i64 pc] : Array Value).toList, u.oneCell' = true := by intro u hu; simp at hu; rcases hu with rfl | rfl | rfl <;> rfl
                    go_wp2_with (at_builtin; refine wpl_appN rfl _ _ 25 rfl 34 _ 3 24 Tryd.underlying25 Tryd.unitInfo rfl (by decide) _ _ _ _ _ HX.out.1 rfl #[.int .i64 pa, .int .i64 pb, .int .i64 pc] rfl hone (by first | rfl | (show Value.slice (some _) 1 1 = Value.slice (some _) 1 1; simp only [World.size_setCell])) hL1 hL2 ?_; intro g2 cap2 w9 hm9 hg9 hBg9 hat9)
                    go_roundw
                    case rel =>
                      refine ⟨i + 1, L ++ [⟨pa, pb, pc⟩], by go_num, by have := HIN.out; omega, ?_, blk_gr HX.out.1.own hg9 fb _ _ (by decide) HX.out.2, hid (by rw [List.length_append, HL.out]; rfl), HR2⟩
                      have e1 : unitsC (L ++ [⟨pa, pb, pc⟩]) = unitsC L ++ [.int .i64 pa, .int .i64 pb, .int .i64 pc] := by simp [unitsC, uCells]
                      rw [e1]
                      exact hm9
                    case measure => simp [intOf]; have := HIN.out; omega
                  · have hR : RU = ([], 15) := by
                      rw [← HR.out]
                      conv => lhs; unfold unitsL
                      rw [HUN.out, if_neg hpq]; exact if_neg (show ¬ (15 : Int) = 0 by decide)
                    subst hR
                    have hdn0 : dn = true := by rw [← HDN.out, decide_eq_false hpq]; rfl
                    subst hdn0
                    clear HDN
                    clear h13' HR HUN
                    go_wp2_with fail
                    go_ret2
                    exact HBAD.out _ _ rfl (by rw [HFBN.out]; exact HX.out.1.below)
              · have hk : 0 ≤ sa ∧ sa < (i : Int) := hoa (by decide)
                have hk2 : 0 ≤ sb ∧ sb < (i : Int) := hob (by decide)
                obtain ⟨jp, rfl⟩ : ∃ j : Nat, sa = j := ⟨sa.toNat, by omega⟩
                obtain ⟨p, hp⟩ : ∃ u, L[jp]? = some u := ⟨_, List.getElem?_eq_getElem (by rw [HL.out]; omega)⟩
                have hatp : uAt L jp = p := by unfold uAt; rw [Int.toNat_natCast, List.getD_eq_getElem?_getD, hp]; rfl
                obtain ⟨lb, loff, hlo, hlb, p0, p1, p2⟩ := hLW.at hp
                subst hlo
                obtain ⟨jq, rfl⟩ : ∃ j : Nat, sb = j := ⟨sb.toNat, by omega⟩
                obtain ⟨q, hq⟩ : ∃ u, L[jq]? = some u := ⟨_, List.getElem?_eq_getElem (by rw [HL.out]; omega)⟩
                have hatq : uAt L jq = q := by unfold uAt; rw [Int.toNat_natCast, List.getD_eq_getElem?_getD, hq]; rfl
                obtain ⟨lb2, loff2, hlo, hlb2, q0, q1, q2⟩ := hLW.at hq
                obtain ⟨rfl, rfl⟩ : lb = lb2 ∧ loff = loff2 := by cases hlo; exact ⟨rfl, rfl⟩
                clear hlo
                have hjI : (jp : Int) < i := by omega
                have hjn : jp < i := by omega
                have hjI2 : (jq : Int) < i := by omega
                have hjn2 : jq < i := by omega
                have HUN : Hid (unitOf I L ⟨3, jp, jq, sn⟩ = (p, if p = q then 0 else 15)) := by unfold Hid unitOf; rw [if_neg (show ¬ (3 : Int) = 1 by decide), if_neg (show ¬ (3 : Int) = 4 by decide), if_neg (show ¬ (3 : Int) = 5 by decide), if_pos (show ((3 : Int) = 2 ∨ (3 : Int) = 3 ∨ (3 : Int) = 6) by decide), hatp, hatq]
                have HPQ := hid (fun (h1 : p.a = q.a) (h2 : p.b = q.b) (h3 : p.c = q.c) => (by cases p; cases q; simp only at h1 h2 h3; subst h1 h2 h3; rfl : p = q))
                obtain ⟨pa, pb, pc⟩ := p
                obtain ⟨qa, qb, qc⟩ := q
                simp only at p0 p1 p2 q0 q1 q2 HPQ
                have hC' : Chg (fun q => q = b13) W (((W.setCell ⟨b13, 0, none⟩ (.int .i64 pa)).setCell ⟨b13, 1, none⟩ (.int .i64 pb)).setCell ⟨b13, 2, none⟩ (.int .i64 pc)) := (((Chg.refl (fun q => q = b13) W).set (p := ⟨b13, 0, none⟩) rfl _).set (p := ⟨b13, 1, none⟩) rfl _).set (p := ⟨b13, 2, none⟩) rfl _
                have h13' : Blk (((W.setCell ⟨b13, 0, none⟩ (.int .i64 pa)).setCell ⟨b13, 1, none⟩ (.int .i64 pb)).setCell ⟨b13, 2, none⟩ (.int .i64 pc)) b13 34 [.int .i64 pa, .int .i64 pb, .int .i64 pc] := ((h13.set 0 _).set 1 _).set 2 _
                have HX := hid (show MineN 3 fb w _ 34 (.slice _ i lc) i (unitsC L) ∧ Blk _ fb 24 [.string nm, .int .i64 ver, .slice (some ⟨b, off, none⟩) n sc] from ⟨hMW.chg3 hC' (fun k hk => by have := HNE.out; have := hMW.own.lt k hk; have := HLT.out k hk; omega) (by have := HNE.out; omega), hfbW.chg hC' (by have := HNE.out; omega)⟩)
                have k0 := h13'.cell 0
                have k1 := h13'.cell 1
                have k2 := h13'.cell 2
                simp only [List.getElem?_cons_zero, List.getElem?_cons_succ] at k0 k1 k2
                have z0 := h13.cell 0
                have z1 := h13.cell 1
                have z2 := h13.cell 2
                simp only [List.getElem?_cons_zero, List.getElem?_cons_succ] at z0 z1 z2
                have g0 := h13.free 0
                have g1 := h13.free 1
                have g2 := h13.free 2
                have Wd : ∃ Wd : World, Wd = (((W.setCell ⟨b13, 0, none⟩ (.int .i64 pa)).setCell ⟨b13, 1, none⟩ (.int .i64 pb)).setCell ⟨b13, 2, none⟩ (.int .i64 pc)) := ⟨_, rfl⟩
                have y1 := h12.cell 1
                have y2 := h12.cell 2
                have y0 := h12.cell 0
                simp only [List.getElem?_cons_zero, List.getElem?_cons_succ] at y1 y2 y0
                obtain ⟨Wd, hWd⟩ := Wd
                have H12 := hid (h12.chg hC' (by have := HNE.out; omega))
                have Q0 := hid ((World.cell?_of_block (w := W) (a := ⟨lb, loff + jq * 3, none⟩) (hC'.block lb hlb (by have := HNE.out; have := HLB.out _ _ rfl; omega))).trans q0)
                have Q1 := hid ((World.cell?_of_block (w := W) (a := ⟨lb, loff + jq * 3 + 1, none⟩) (hC'.block lb hlb (by have := HNE.out; have := HLB.out _ _ rfl; omega))).trans q1)
                have Q2 := hid ((World.cell?_of_block (w := W) (a := ⟨lb, loff + jq * 3 + 2, none⟩) (hC'.block lb hlb (by have := HNE.out; have := HLB.out _ _ rfl; omega))).trans q2)
                have H13 := hid h13'
                rw [← hWd] at H12 Q0 Q1 Q2 H13 HX
                have HWD := hid hWd
                clear hatp hp hlb hatq hq hlb2 hMW hfbW hLW h12 h13 hC' h13' hoa hob hnx hn0 hk hk2 hio hWd
                go_upto_region 27 with fail
                rw [← HWD.out]
                clear k0 k1 k2 z0 z1 z2 g0 g1 g2 y0 y1 y2 p0 p1 p2 q0 q1 q2
                obtain ⟨dn, hdn⟩ : ∃ dn, (!(decide ((⟨pa, pb, pc⟩ : U) = ⟨qa, qb, qc⟩))) = dn := ⟨_, rfl⟩
                have HDN := hid hdn
                clear hdn
                go_cut [92] from 86 to 92 (fun s92 wx => s92 = .bool dn ∧ Below Wd.heap.size Wd wx)
                case first =>
                  have x0 := H13.out.cell 0
                  have x1 := H13.out.cell 1
                  have x2 := H13.out.cell 2
                  have y2 := H12.out.cell 2
                  simp only [List.getElem?_cons_zero, List.getElem?_cons_succ] at x0 x1 x2 y2
                  have r0 := cell_regrown x0
                  have r1 := cell_regrown x1
                  have r2 := cell_regrown x2
                  have s2 := cell_regrown y2
                  have t0 := cell_regrown Q0.out
                  have t1 := cell_regrown Q1.out
                  have t2 := cell_regrown Q2.out
                  clear x0 x1 x2 y2 Q0 Q1 Q2
                  have hneq : ∀ w', (binOp .neq 34 (.agg #[.int .i64 pa, .int .i64 pb, .int .i64 pc]) (.agg #[.int .i64 qa, .int .i64 qb, .int .i64 qc])).run Tryd.prog w' = .ok (.bool (!decide ((⟨pa, pb, pc⟩ : U) = ⟨qa, qb, qc⟩))) w' := fun w' => funit_neq ⟨pa, pb, pc⟩ ⟨qa, qb, qc⟩ w'
                  refine wp_region_quiet_below (by kernel_rfl) (by kernel_rfl) ?_
                  repeat (first | go_big_quiet_step (fail) | quiet_step (fail))
                  refine wpQuiet_nil ?_
                  intro _ hw'
                  obtain ⟨⟨dq, osq⟩, hw''⟩ := hw'
                  subst hw''
                  go_wp2_with fail
                  go_meet
                  case rel =>
                    refine ⟨?_, below_regrown Wd dq osq⟩
                    rw [← HDN.out]
                    congr 1
                    by_cases h1 : pa = qa <;> by_cases h2 : pb = qb <;> by_cases h3 : pc = qc <;> simp [h1, h2, h3]
                case rest =>
                  obtain ⟨rfl, hBx⟩ := hcut
                  have hX2 := HX.out
                  have hM2 : MineN 3 fb w wc 34 (.slice (some ⟨lb, loff, none⟩) i lc) i (unitsC L) := ⟨ownsRow_chgN hX2.1.own (Chg.ofBelow (S := fun _ => False) hBx) (fun _ _ h => h), hX2.1.below.trans (hBx.mono hX2.1.base), Nat.le_trans hX2.1.base hBx.size⟩
                  have hf2 := hX2.2.below hBx hX2.2.lt
                  have h13' := H13.out.below hBx H13.out.lt
                  clear HX hX2 Q0 Q1 Q2 H12 H13 HWD hBx
                  have HX := hid (And.intro hM2 hf2)
                  clear hM2 hf2
                  by_cases hpq : (⟨pa, pb, pc⟩ : U) = ⟨qa, qb, qc⟩
                  · have HR2 : Hid (unitsL I (L ++ [⟨pa, pb, pc⟩]) (S.drop (i + 1)) = RU) := by
                      unfold Hid
                      rw [← HR.out]
                      conv => rhs; unfold unitsL
                      rw [HUN.out, if_pos hpq]; exact (if_pos rfl).symm
                    have hdn0 : dn = false := by rw [← HDN.out, decide_eq_true hpq]; rfl
                    subst hdn0
                    clear HDN
                    have k0 := h13'.cell 0
                    have k1 := h13'.cell 1
                    have k2 := h13'.cell 2
                    simp only [List.getElem?_cons_zero, List.getElem?_cons_succ] at k0 k1 k2
                    clear h13' HR HUN hpq
                    have hone : ∀ u ∈ (#[Value.int .i64 pa, Value.int .i64 pb, Value.int .i64 pc] : Array Value).toList, u.oneCell' = true := by intro u hu; simp at hu; rcases hu with rfl | rfl | rfl <;> rfl
                    go_wp2_with (at_builtin; refine wpl_appN rfl _ _ 25 rfl 34 _ 3 24 Tryd.underlying25 Tryd.unitInfo rfl (by decide) _ _ _ _ _ HX.out.1 rfl #[.int .i64 pa, .int .i64 pb, .int .i64 pc] rfl hone (by first | rfl | (show Value.slice (some _) 1 1 = Value.slice (some _) 1 1; simp only [World.size_setCell])) hL1 hL2 ?_; intro g2 cap2 w9 hm9 hg9 hBg9 hat9)
                    go_roundw
                    case rel =>
                      refine ⟨i + 1, L ++ [⟨pa, pb, pc⟩], by go_num, by have := HIN.out; omega, ?_, blk_gr HX.out.1.own hg9 fb _ _ (by decide) HX.out.2, hid (by rw [List.length_append, HL.out]; rfl), HR2⟩
                      have e1 : unitsC (L ++ [⟨pa, pb, pc⟩]) = unitsC L ++ [.int .i64 pa, .int .i64 pb, .int .i64 pc] := by simp [unitsC, uCells]
                      rw [e1]
                      exact hm9
                    case measure => simp [intOf]; have := HIN.out; omega
                  · have hR : RU = ([], 15) := by
                      rw [← HR.out]
                      conv => lhs; unfold unitsL
                      rw [HUN.out, if_neg hpq]; exact if_neg (show ¬ (15 : Int) = 0 by decide)
                    subst hR
                    have hdn0 : dn = true := by rw [← HDN.out, decide_eq_false hpq]; rfl
                    subst hdn0
                    clear HDN
                    clear h13' HR HUN
                    go_wp2_with fail
                    go_ret2
                    exact HBAD.out _ _ rfl (by rw [HFBN.out]; exact HX.out.1.below)
              · have hk : 0 ≤ sa ∧ sa < (i : Int) := hoa (by decide)
                have hk2 : 0 ≤ sb ∧ sb < (i : Int) := hob (by decide)
                obtain ⟨jp, rfl⟩ : ∃ j : Nat, sa = j := ⟨sa.toNat, by omega⟩
                obtain ⟨p, hp⟩ : ∃ u, L[jp]? = some u := ⟨_, List.getElem?_eq_getElem (by rw [HL.out]; omega)⟩
                have hatp : uAt L jp = p := by unfold uAt; rw [Int.toNat_natCast, List.getD_eq_getElem?_getD, hp]; rfl
                obtain ⟨lb, loff, hlo, hlb, p0, p1, p2⟩ := hLW.at hp
                subst hlo
                obtain ⟨jq, rfl⟩ : ∃ j : Nat, sb = j := ⟨sb.toNat, by omega⟩
                obtain ⟨q, hq⟩ : ∃ u, L[jq]? = some u := ⟨_, List.getElem?_eq_getElem (by rw [HL.out]; omega)⟩
                have hatq : uAt L jq = q := by unfold uAt; rw [Int.toNat_natCast, List.getD_eq_getElem?_getD, hq]; rfl
                obtain ⟨lb2, loff2, hlo, hlb2, q0, q1, q2⟩ := hLW.at hq
                obtain ⟨rfl, rfl⟩ : lb = lb2 ∧ loff = loff2 := by cases hlo; exact ⟨rfl, rfl⟩
                clear hlo
                have hjI : (jp : Int) < i := by omega
                have hjn : jp < i := by omega
                have hjI2 : (jq : Int) < i := by omega
                have hjn2 : jq < i := by omega
                obtain ⟨X, hX⟩ : ∃ X, mulU p q = X := ⟨_, rfl⟩
                obtain ⟨E, hE⟩ : ∃ E, mulE p q = E := ⟨_, rfl⟩
                have hmu := hid (fun w => HMUL.out p q w)
                rw [hX, hE] at hmu
                have HUN : Hid (unitOf I L ⟨4, jp, jq, sn⟩ = (X, E)) := by unfold Hid unitOf; rw [if_neg (show ¬ (4 : Int) = 1 by decide), if_pos rfl, hatp, hatq, hX, hE]
                obtain ⟨pa, pb, pc⟩ := p
                obtain ⟨qa, qb, qc⟩ := q
                obtain ⟨xa, xb, xc⟩ := X
                simp only [uV] at hmu p0 p1 p2 q0 q1 q2
                have H13 := hid h13
                have HMW := hid (And.intro hMW hfbW)
                have y1 := h12.cell 1
                have y2 := h12.cell 2
                have y0 := h12.cell 0
                simp only [List.getElem?_cons_zero, List.getElem?_cons_succ] at y1 y2 y0
                clear hatp hp hlb hatq hq hlb2 hMW hfbW hLW h12 h13 hoa hob hnx hn0 hk hk2 hio hX hE
                go_upto_region 20 with fail
                go_region_with
                  (go_at_call 10; refine (hmu.out _).mono ?_; rintro e8 w8 ⟨rfl, B8⟩; have h8 := H13.out.drew.below B8 (by exact H13.out.lt); have z0 := h8.cell 0; have z1 := h8.cell 1; have z2 := h8.cell 2; have g0 := h8.free 0; have g1 := h8.free 1; have g2 := h8.free 2; simp only [List.getElem?_cons_zero, List.getElem?_cons_succ] at z0 z1 z2)
                all_goals
                  obtain ⟨hMW, hfbW⟩ := HMW.out
                  have hC8 : Chg (fun q => q = b13) W w8 := (Chg.refl (fun q => q = b13) W).drew.trans (Chg.ofBelow B8)
                  have hC' : Chg (fun q => q = b13) W (((w8.setCell ⟨b13, 0, none⟩ (.int .i64 xa)).setCell ⟨b13, 1, none⟩ (.int .i64 xb)).setCell ⟨b13, 2, none⟩ (.int .i64 xc)) := ((hC8.set (p := ⟨b13, 0, none⟩) rfl _).set (p := ⟨b13, 1, none⟩) rfl _).set (p := ⟨b13, 2, none⟩) rfl _
                  have h13' : Blk (((w8.setCell ⟨b13, 0, none⟩ (.int .i64 xa)).setCell ⟨b13, 1, none⟩ (.int .i64 xb)).setCell ⟨b13, 2, none⟩ (.int .i64 xc)) b13 34 [.int .i64 xa, .int .i64 xb, .int .i64 xc] := ((h8.set 0 _).set 1 _).set 2 _
                  have HX := hid (And.intro (hMW.chg3 hC' (fun k hk => by have := HNE.out; have := hMW.own.lt k hk; have := HLT.out k hk; omega) (by have := HNE.out; omega)) (hfbW.chg hC' (by have := HNE.out; omega)))
                  clear hmu p0 p1 p2 q0 q1 q2 y0 y1 y2 hMW hfbW hC' HMW H13 hjI hjn hjI2 hjn2 hC8 h8 B8
                  by_cases hE0 : E = 0
                  · subst hE0
                    have HR2 : Hid (unitsL I (L ++ [⟨xa, xb, xc⟩]) (S.drop (i + 1)) = RU) := by
                      unfold Hid
                      rw [← HR.out]
                      conv => rhs; unfold unitsL
                      rw [HUN.out]; exact (if_pos rfl).symm
                    have k0 := h13'.cell 0
                    have k1 := h13'.cell 1
                    have k2 := h13'.cell 2
                    simp only [List.getElem?_cons_zero, List.getElem?_cons_succ] at k0 k1 k2
                    clear h13' HR HUN
                    have hone : ∀ u ∈ (#[Value.int .i64 xa, Value.int .i64 xb, Value.int .i64 xc] : Array Value).toList, u.oneCell' = true := by intro u hu; simp at hu; rcases hu with rfl | rfl | rfl <;> rfl
                    go_wp2_with (at_builtin; refine wpl_appN rfl _ _ 25 rfl 34 _ 3 24 Tryd.underlying25 Tryd.unitInfo rfl (by decide) _ _ _ _ _ HX.out.1 rfl #[.int .i64 xa, .int .i64 xb, .int .i64 xc] rfl hone (by first | rfl | (show Value.slice (some _) 1 1 = Value.slice (some _) 1 1; simp only [World.size_setCell])) hL1 hL2 ?_; intro g2 cap2 w9 hm9 hg9 hBg9 hat9)
                    go_roundw
                    case rel =>
                      refine ⟨i + 1, L ++ [⟨xa, xb, xc⟩], by go_num, by have := HIN.out; omega, ?_, blk_gr HX.out.1.own hg9 fb _ _ (by decide) HX.out.2, hid (by rw [List.length_append, HL.out]; rfl), HR2⟩
                      have e1 : unitsC (L ++ [⟨xa, xb, xc⟩]) = unitsC L ++ [.int .i64 xa, .int .i64 xb, .int .i64 xc] := by simp [unitsC, uCells]
                      rw [e1]
                      exact hm9
                    case measure => simp [intOf]; have := HIN.out; omega
                  · have hEb : (E == 0) = false := beq_eq_false_iff_ne.2 hE0
                    have hR : RU = ([], E) := by
                      rw [← HR.out]
                      conv => lhs; unfold unitsL
                      rw [HUN.out]; exact if_neg hE0
                    subst hR
                    clear h13' HR HUN
                    go_wp2_with fail
                    go_ret2
                    exact HBAD.out _ _ rfl (by rw [HFBN.out]; exact HX.out.1.below)
              · have hk : 0 ≤ sa ∧ sa < (i : Int) := hoa (by decide)
                obtain ⟨jp, rfl⟩ : ∃ j : Nat, sa = j := ⟨sa.toNat, by omega⟩
                obtain ⟨p, hp⟩ : ∃ u, L[jp]? = some u := ⟨_, List.getElem?_eq_getElem (by rw [HL.out]; omega)⟩
                have hatp : uAt L jp = p := by unfold uAt; rw [Int.toNat_natCast, List.getD_eq_getElem?_getD, hp]; rfl
                obtain ⟨lb, loff, hlo, hlb, p0, p1, p2⟩ := hLW.at hp
                subst hlo
                have hjI : (jp : Int) < i := by omega
                have hjn : jp < i := by omega
                have HR2 : Hid (unitsL I (L ++ [p]) (S.drop (i + 1)) = RU) := by
                  unfold Hid
                  rw [← HR.out]
                  conv => rhs; unfold unitsL
                  have hun : unitOf I L ⟨5, jp, sb, sn⟩ = (p, 0) := by unfold unitOf; rw [if_neg (show ¬ (5 : Int) = 1 by decide), if_neg (show ¬ (5 : Int) = 4 by decide), if_pos rfl, hatp]
                  rw [hun]; exact (if_pos rfl).symm
                obtain ⟨pa, pb, pc⟩ := p
                simp only at p0 p1 p2
                have hC' : Chg (fun q => q = b13) W (((W.setCell ⟨b13, 0, none⟩ (.int .i64 pa)).setCell ⟨b13, 1, none⟩ (.int .i64 pb)).setCell ⟨b13, 2, none⟩ (.int .i64 pc)) := (((Chg.refl (fun q => q = b13) W).set (p := ⟨b13, 0, none⟩) rfl _).set (p := ⟨b13, 1, none⟩) rfl _).set (p := ⟨b13, 2, none⟩) rfl _
                have h13' : Blk (((W.setCell ⟨b13, 0, none⟩ (.int .i64 pa)).setCell ⟨b13, 1, none⟩ (.int .i64 pb)).setCell ⟨b13, 2, none⟩ (.int .i64 pc)) b13 34 [.int .i64 pa, .int .i64 pb, .int .i64 pc] := ((h13.set 0 _).set 1 _).set 2 _
                have HX := hid (show MineN 3 fb w _ 34 (.slice _ i lc) i (unitsC L) ∧ Blk _ fb 24 [.string nm, .int .i64 ver, .slice (some ⟨b, off, none⟩) n sc] from ⟨hMW.chg3 hC' (fun k hk => by have := HNE.out; have := hMW.own.lt k hk; have := HLT.out k hk; omega) (by have := HNE.out; omega), hfbW.chg hC' (by have := HNE.out; omega)⟩)
                have k0 := h13'.cell 0
                have k1 := h13'.cell 1
                have k2 := h13'.cell 2
                simp only [List.getElem?_cons_zero, List.getElem?_cons_succ] at k0 k1 k2
                have z0 := h13.cell 0
                have z1 := h13.cell 1
                have z2 := h13.cell 2
                simp only [List.getElem?_cons_zero, List.getElem?_cons_succ] at z0 z1 z2
                have g0 := h13.free 0
                have g1 := h13.free 1
                have g2 := h13.free 2
                have y1 := h12.cell 1
                have y0 := h12.cell 0
                simp only [List.getElem?_cons_zero, List.getElem?_cons_succ] at y1 y0
                clear hatp hp hlb hMW hfbW hLW h12 h13 hC' h13' hoa hob hnx hn0 hk HR hio
                have hone : ∀ u ∈ (#[Value.int .i64 pa, Value.int .i64 pb, Value.int .i64 pc] : Array Value).toList, u.oneCell' = true := by intro u hu; simp at hu; rcases hu with rfl | rfl | rfl <;> rfl
                go_wp2_with (at_builtin; refine wpl_appN rfl _ _ 25 rfl 34 _ 3 24 Tryd.underlying25 Tryd.unitInfo rfl (by decide) _ _ _ _ _ HX.out.1 rfl #[.int .i64 pa, .int .i64 pb, .int .i64 pc] rfl hone (by first | rfl | (show Value.slice (some _) 1 1 = Value.slice (some _) 1 1; simp only [World.size_setCell])) hL1 hL2 ?_; intro g2 cap2 w9 hm9 hg9 hBg9 hat9)
                go_roundw
                case rel =>
                  refine ⟨i + 1, L ++ [⟨pa, pb, pc⟩], by go_num, by have := HIN.out; omega, ?_, blk_gr HX.out.1.own hg9 fb _ _ (by decide) HX.out.2, hid (by rw [List.length_append, HL.out]; rfl), HR2⟩
                  have e1 : unitsC (L ++ [⟨pa, pb, pc⟩]) = unitsC L ++ [.int .i64 pa, .int .i64 pb, .int .i64 pc] := by simp [unitsC, uCells]
                  rw [e1]
                  exact hm9
                case measure => simp [intOf]; have := HIN.out; omega
              · have hk : 0 ≤ sa ∧ sa < (i : Int) := hoa (by decide)
                have hk2 : 0 ≤ sb ∧ sb < (i : Int) := hob (by decide)
                obtain ⟨jp, rfl⟩ : ∃ j : Nat, sa = j := ⟨sa.toNat, by omega⟩
                obtain ⟨p, hp⟩ : ∃ u, L[jp]? = some u := ⟨_, List.getElem?_eq_getElem (by rw [HL.out]; omega)⟩
                have hatp : uAt L jp = p := by unfold uAt; rw [Int.toNat_natCast, List.getD_eq_getElem?_getD, hp]; rfl
                obtain ⟨lb, loff, hlo, hlb, p0, p1, p2⟩ := hLW.at hp
                subst hlo
                obtain ⟨jq, rfl⟩ : ∃ j : Nat, sb = j := ⟨sb.toNat, by omega⟩
                obtain ⟨q, hq⟩ : ∃ u, L[jq]? = some u := ⟨_, List.getElem?_eq_getElem (by rw [HL.out]; omega)⟩
                have hatq : uAt L jq = q := by unfold uAt; rw [Int.toNat_natCast, List.getD_eq_getElem?_getD, hq]; rfl
                obtain ⟨lb2, loff2, hlo, hlb2, q0, q1, q2⟩ := hLW.at hq
                obtain ⟨rfl, rfl⟩ : lb = lb2 ∧ loff = loff2 := by cases hlo; exact ⟨rfl, rfl⟩
                clear hlo
                have hjI : (jp : Int) < i := by omega
                have hjn : jp < i := by omega
                have hjI2 : (jq : Int) < i := by omega
                have hjn2 : jq < i := by omega
                have HUN : Hid (unitOf I L ⟨6, jp, jq, sn⟩ = (p, if p = q then 0 else 15)) := by unfold Hid unitOf; rw [if_neg (show ¬ (6 : Int) = 1 by decide), if_neg (show ¬ (6 : Int) = 4 by decide), if_neg (show ¬ (6 : Int) = 5 by decide), if_pos (show ((6 : Int) = 2 ∨ (6 : Int) = 3 ∨ (6 : Int) = 6) by decide), hatp, hatq]
                have HPQ := hid (fun (h1 : p.a = q.a) (h2 : p.b = q.b) (h3 : p.c = q.c) => (by cases p; cases q; simp only at h1 h2 h3; subst h1 h2 h3; rfl : p = q))
                obtain ⟨pa, pb, pc⟩ := p
                obtain ⟨qa, qb, qc⟩ := q
                simp only at p0 p1 p2 q0 q1 q2 HPQ
                have hC' : Chg (fun q => q = b13) W (((W.setCell ⟨b13, 0, none⟩ (.int .i64 pa)).setCell ⟨b13, 1, none⟩ (.int .i64 pb)).setCell ⟨b13, 2, none⟩ (.int .i64 pc)) := (((Chg.refl (fun q => q = b13) W).set (p := ⟨b13, 0, none⟩) rfl _).set (p := ⟨b13, 1, none⟩) rfl _).set (p := ⟨b13, 2, none⟩) rfl _
                have h13' : Blk (((W.setCell ⟨b13, 0, none⟩ (.int .i64 pa)).setCell ⟨b13, 1, none⟩ (.int .i64 pb)).setCell ⟨b13, 2, none⟩ (.int .i64 pc)) b13 34 [.int .i64 pa, .int .i64 pb, .int .i64 pc] := ((h13.set 0 _).set 1 _).set 2 _
                have HX := hid (show MineN 3 fb w _ 34 (.slice _ i lc) i (unitsC L) ∧ Blk _ fb 24 [.string nm, .int .i64 ver, .slice (some ⟨b, off, none⟩) n sc] from ⟨hMW.chg3 hC' (fun k hk => by have := HNE.out; have := hMW.own.lt k hk; have := HLT.out k hk; omega) (by have := HNE.out; omega), hfbW.chg hC' (by have := HNE.out; omega)⟩)
                have k0 := h13'.cell 0
                have k1 := h13'.cell 1
                have k2 := h13'.cell 2
                simp only [List.getElem?_cons_zero, List.getElem?_cons_succ] at k0 k1 k2
                have z0 := h13.cell 0
                have z1 := h13.cell 1
                have z2 := h13.cell 2
                simp only [List.getElem?_cons_zero, List.getElem?_cons_succ] at z0 z1 z2
                have g0 := h13.free 0
                have g1 := h13.free 1
                have g2 := h13.free 2
                have Wd : ∃ Wd : World, Wd = (((W.setCell ⟨b13, 0, none⟩ (.int .i64 pa)).setCell ⟨b13, 1, none⟩ (.int .i64 pb)).setCell ⟨b13, 2, none⟩ (.int .i64 pc)) := ⟨_, rfl⟩
                have y1 := h12.cell 1
                have y2 := h12.cell 2
                have y0 := h12.cell 0
                simp only [List.getElem?_cons_zero, List.getElem?_cons_succ] at y1 y2 y0
                obtain ⟨Wd, hWd⟩ := Wd
                have H12 := hid (h12.chg hC' (by have := HNE.out; omega))
                have Q0 := hid ((World.cell?_of_block (w := W) (a := ⟨lb, loff + jq * 3, none⟩) (hC'.block lb hlb (by have := HNE.out; have := HLB.out _ _ rfl; omega))).trans q0)
                have Q1 := hid ((World.cell?_of_block (w := W) (a := ⟨lb, loff + jq * 3 + 1, none⟩) (hC'.block lb hlb (by have := HNE.out; have := HLB.out _ _ rfl; omega))).trans q1)
                have Q2 := hid ((World.cell?_of_block (w := W) (a := ⟨lb, loff + jq * 3 + 2, none⟩) (hC'.block lb hlb (by have := HNE.out; have := HLB.out _ _ rfl; omega))).trans q2)
                have H13 := hid h13'
                rw [← hWd] at H12 Q0 Q1 Q2 H13 HX
                have HWD := hid hWd
                clear hatp hp hlb hatq hq hlb2 hMW hfbW hLW h12 h13 hC' h13' hoa hob hnx hn0 hk hk2 hio hWd
                go_upto_region 27 with fail
                rw [← HWD.out]
                clear k0 k1 k2 z0 z1 z2 g0 g1 g2 y0 y1 y2 p0 p1 p2 q0 q1 q2
                obtain ⟨dn, hdn⟩ : ∃ dn, (!(decide ((⟨pa, pb, pc⟩ : U) = ⟨qa, qb, qc⟩))) = dn := ⟨_, rfl⟩
                have HDN := hid hdn
                clear hdn
                go_cut [92] from 86 to 92 (fun s92 wx => s92 = .bool dn ∧ Below Wd.heap.size Wd wx)
                case first =>
                  have x0 := H13.out.cell 0
                  have x1 := H13.out.cell 1
                  have x2 := H13.out.cell 2
                  have y2 := H12.out.cell 2
                  simp only [List.getElem?_cons_zero, List.getElem?_cons_succ] at x0 x1 x2 y2
                  have r0 := cell_regrown x0
                  have r1 := cell_regrown x1
                  have r2 := cell_regrown x2
                  have s2 := cell_regrown y2
                  have t0 := cell_regrown Q0.out
                  have t1 := cell_regrown Q1.out
                  have t2 := cell_regrown Q2.out
                  clear x0 x1 x2 y2 Q0 Q1 Q2
                  have hneq : ∀ w', (binOp .neq 34 (.agg #[.int .i64 pa, .int .i64 pb, .int .i64 pc]) (.agg #[.int .i64 qa, .int .i64 qb, .int .i64 qc])).run Tryd.prog w' = .ok (.bool (!decide ((⟨pa, pb, pc⟩ : U) = ⟨qa, qb, qc⟩))) w' := fun w' => funit_neq ⟨pa, pb, pc⟩ ⟨qa, qb, qc⟩ w'
                  refine wp_region_quiet_below (by kernel_rfl) (by kernel_rfl) ?_
                  repeat (first | go_big_quiet_step (fail) | quiet_step (fail))
                  refine wpQuiet_nil ?_
                  intro _ hw'
                  obtain ⟨⟨dq, osq⟩, hw''⟩ := hw'
                  subst hw''
                  go_wp2_with fail
                  go_meet
                  case rel =>
                    refine ⟨?_, below_regrown Wd dq osq⟩
                    rw [← HDN.out]
                    congr 1
                    by_cases h1 : pa = qa <;> by_cases h2 : pb = qb <;> by_cases h3 : pc = qc <;> simp [h1, h2, h3]
                case rest =>
                  obtain ⟨rfl, hBx⟩ := hcut
                  have hX2 := HX.out
                  have hM2 : MineN 3 fb w wc 34 (.slice (some ⟨lb, loff, none⟩) i lc) i (unitsC L) := ⟨ownsRow_chgN hX2.1.own (Chg.ofBelow (S := fun _ => False) hBx) (fun _ _ h => h), hX2.1.below.trans (hBx.mono hX2.1.base), Nat.le_trans hX2.1.base hBx.size⟩
                  have hf2 := hX2.2.below hBx hX2.2.lt
                  have h13' := H13.out.below hBx H13.out.lt
                  clear HX hX2 Q0 Q1 Q2 H12 H13 HWD hBx
                  have HX := hid (And.intro hM2 hf2)
                  clear hM2 hf2
                  by_cases hpq : (⟨pa, pb, pc⟩ : U) = ⟨qa, qb, qc⟩
                  · have HR2 : Hid (unitsL I (L ++ [⟨pa, pb, pc⟩]) (S.drop (i + 1)) = RU) := by
                      unfold Hid
                      rw [← HR.out]
                      conv => rhs; unfold unitsL
                      rw [HUN.out, if_pos hpq]; exact (if_pos rfl).symm
                    have hdn0 : dn = false := by rw [← HDN.out, decide_eq_true hpq]; rfl
                    subst hdn0
                    clear HDN
                    have k0 := h13'.cell 0
                    have k1 := h13'.cell 1
                    have k2 := h13'.cell 2
                    simp only [List.getElem?_cons_zero, List.getElem?_cons_succ] at k0 k1 k2
                    clear h13' HR HUN hpq
                    have hone : ∀ u ∈ (#[Value.int .i64 pa, Value.int .i64 pb, Value.int .i64 pc] : Array Value).toList, u.oneCell' = true := by intro u hu; simp at hu; rcases hu with rfl | rfl | rfl <;> rfl
                    go_wp2_with (at_builtin; refine wpl_appN rfl _ _ 25 rfl 34 _ 3 24 Tryd.underlying25 Tryd.unitInfo rfl (by decide) _ _ _ _ _ HX.out.1 rfl #[.int .i64 pa, .int .i64 pb, .int .i64 pc] rfl hone (by first | rfl | (show Value.slice (some _) 1 1 = Value.slice (some _) 1 1; simp only [World.size_setCell])) hL1 hL2 ?_; intro g2 cap2 w9 hm9 hg9 hBg9 hat9)
                    go_roundw
                    case rel =>
                      refine ⟨i + 1, L ++ [⟨pa, pb, pc⟩], by go_num, by have := HIN.out; omega, ?_, blk_gr HX.out.1.own hg9 fb _ _ (by decide) HX.out.2, hid (by rw [List.length_append, HL.out]; rfl), HR2⟩
                      have e1 : unitsC (L ++ [⟨pa, pb, pc⟩]) = unitsC L ++ [.int .i64 pa, .int .i64 pb, .int .i64 pc] := by simp [unitsC, uCells]
                      rw [e1]
                      exact hm9
                    case measure => simp [intOf]; have := HIN.out; omega
                  · have hR : RU = ([], 15) := by
                      rw [← HR.out]
                      conv => lhs; unfold unitsL
                      rw [HUN.out, if_neg hpq]; exact if_neg (show ¬ (15 : Int) = 0 by decide)
                    subst hR
                    have hdn0 : dn = true := by rw [← HDN.out, decide_eq_false hpq]; rfl
                    subst hdn0
                    clear HDN
                    clear h13' HR HUN
                    go_wp2_with fail
                    go_ret2
                    exact HBAD.out _ _ rfl (by rw [HFBN.out]; exact HX.out.1.below)
              · have HR2 : Hid (unitsL I (L ++ [u0]) (S.drop (i + 1)) = RU) := by
                  unfold Hid
                  rw [← HR.out]
                  conv => rhs; unfold unitsL
                  have hun : unitOf I L ⟨7, sa, sb, sn⟩ = (u0, 0) := by unfold unitOf; rw [if_neg (show ¬ (7 : Int) = 1 by decide), if_neg (show ¬ (7 : Int) = 4 by decide), if_neg (show ¬ (7 : Int) = 5 by decide), if_neg (show ¬ ((7 : Int) = 2 ∨ (7 : Int) = 3 ∨ (7 : Int) = 6) by decide)]
                  rw [hun]; exact (if_pos rfl).symm
                have HX := hid (And.intro hMW hfbW)
                have z0 := h13.cell 0
                have z1 := h13.cell 1
                have z2 := h13.cell 2
                simp only [List.getElem?_cons_zero, List.getElem?_cons_succ] at z0 z1 z2
                have y0 := h12.cell 0
                simp only [List.getElem?_cons_zero] at y0
                clear hMW hfbW hLW h12 h13 hoa hob hnx hn0 HR hio
                have hone : ∀ u ∈ (#[Value.int .i64 0, Value.int .i64 0, Value.int .i64 0] : Array Value).toList, u.oneCell' = true := by intro u hu; simp at hu; rcases hu with rfl | rfl | rfl <;> rfl
                go_wp2_with (at_builtin; refine wpl_appN rfl _ _ 25 rfl 34 _ 3 24 Tryd.underlying25 Tryd.unitInfo rfl (by decide) _ _ _ _ _ HX.out.1 rfl #[.int .i64 0, .int .i64 0, .int .i64 0] rfl hone (by first | rfl | (show Value.slice (some _) 1 1 = Value.slice (some _) 1 1; simp only [World.size_setCell])) hL1 hL2 ?_; intro g2 cap2 w9 hm9 hg9 hBg9 hat9)
                go_roundw
                case rel =>
                  refine ⟨i + 1, L ++ [u0], by go_num, by have := HIN.out; omega, ?_, blk_gr HX.out.1.own hg9 fb _ _ (by decide) HX.out.2, hid (by rw [List.length_append, HL.out]; rfl), HR2⟩
                  have e1 : unitsC (L ++ [u0]) = unitsC L ++ [.int .i64 0, .int .i64 0, .int .i64 0] := by simp [unitsC, uCells, u0]
                  rw [e1]
                  exact hm9
                case measure => simp [intOf]; have := HIN.out; omega
              · have HR2 : Hid (unitsL I (L ++ [u0]) (S.drop (i + 1)) = RU) := by
                  unfold Hid
                  rw [← HR.out]
                  conv => rhs; unfold unitsL
                  have hun : unitOf I L ⟨8, sa, sb, sn⟩ = (u0, 0) := by unfold unitOf; rw [if_neg (show ¬ (8 : Int) = 1 by decide), if_neg (show ¬ (8 : Int) = 4 by decide), if_neg (show ¬ (8 : Int) = 5 by decide), if_neg (show ¬ ((8 : Int) = 2 ∨ (8 : Int) = 3 ∨ (8 : Int) = 6) by decide)]
                  rw [hun]; exact (if_pos rfl).symm
                have HX := hid (And.intro hMW hfbW)
                have z0 := h13.cell 0
                have z1 := h13.cell 1
                have z2 := h13.cell 2
                simp only [List.getElem?_cons_zero, List.getElem?_cons_succ] at z0 z1 z2
                have y0 := h12.cell 0
                simp only [List.getElem?_cons_zero] at y0
                clear hMW hfbW hLW h12 h13 hoa hob hnx hn0 HR hio
                have hone : ∀ u ∈ (#[Value.int .i64 0, Value.int .i64 0, Value.int .i64 0] : Array Value).toList, u.oneCell' = true := by intro u hu; simp at hu; rcases hu with rfl | rfl | rfl <;> rfl
                go_wp2_with (at_builtin; refine wpl_appN rfl _ _ 25 rfl 34 _ 3 24 Tryd.underlying25 Tryd.unitInfo rfl (by decide) _ _ _ _ _ HX.out.1 rfl #[.int .i64 0, .int .i64 0, .int .i64 0] rfl hone (by first | rfl | (show Value.slice (some _) 1 1 = Value.slice (some _) 1 1; simp only [World.size_setCell])) hL1 hL2 ?_; intro g2 cap2 w9 hm9 hg9 hBg9 hat9)
                go_roundw
                case rel =>
                  refine ⟨i + 1, L ++ [u0], by go_num, by have := HIN.out; omega, ?_, blk_gr HX.out.1.own hg9 fb _ _ (by decide) HX.out.2, hid (by rw [List.length_append, HL.out]; rfl), HR2⟩
                  have e1 : unitsC (L ++ [u0]) = unitsC L ++ [.int .i64 0, .int .i64 0, .int .i64 0] := by simp [unitsC, uCells, u0]
                  rw [e1]
                  exact hm9
                case measure => simp [intOf]; have := HIN.out; omega
              · have HR2 : Hid (unitsL I (L ++ [u0]) (S.drop (i + 1)) = RU) := by
                  unfold Hid
                  rw [← HR.out]
                  conv => rhs; unfold unitsL
                  have hun : unitOf I L ⟨9, sa, sb, sn⟩ = (u0, 0) := by unfold unitOf; rw [if_neg (show ¬ (9 : Int) = 1 by decide), if_neg (show ¬ (9 : Int) = 4 by decide), if_neg (show ¬ (9 : Int) = 5 by decide), if_neg (show ¬ ((9 : Int) = 2 ∨ (9 : Int) = 3 ∨ (9 : Int) = 6) by decide)]
                  rw [hun]; exact (if_pos rfl).symm
                have HX := hid (And.intro hMW hfbW)
                have z0 := h13.cell 0
                have z1 := h13.cell 1
                have z2 := h13.cell 2
                simp only [List.getElem?_cons_zero, List.getElem?_cons_succ] at z0 z1 z2
                have y0 := h12.cell 0
                simp only [List.getElem?_cons_zero] at y0
                clear hMW hfbW hLW h12 h13 hoa hob hnx hn0 HR hio
                have hone : ∀ u ∈ (#[Value.int .i64 0, Value.int .i64 0, Value.int .i64 0] : Array Value).toList, u.oneCell' = true := by intro u hu; simp at hu; rcases hu with rfl | rfl | rfl <;> rfl
                go_wp2_with (at_builtin; refine wpl_appN rfl _ _ 25 rfl 34 _ 3 24 Tryd.underlying25 Tryd.unitInfo rfl (by decide) _ _ _ _ _ HX.out.1 rfl #[.int .i64 0, .int .i64 0, .int .i64 0] rfl hone (by first | rfl | (show Value.slice (some _) 1 1 = Value.slice (some _) 1 1; simp only [World.size_setCell])) hL1 hL2 ?_; intro g2 cap2 w9 hm9 hg9 hBg9 hat9)
                go_roundw
                case rel =>
                  refine ⟨i + 1, L ++ [u0], by go_num, by have := HIN.out; omega, ?_, blk_gr HX.out.1.own hg9 fb _ _ (by decide) HX.out.2, hid (by rw [List.length_append, HL.out]; rfl), HR2⟩
                  have e1 : unitsC (L ++ [u0]) = unitsC L ++ [.int .i64 0, .int .i64 0, .int .i64 0] := by simp [unitsC, uCells, u0]
                  rw [e1]
                  exact hm9
                case measure => simp [intOf]; have := HIN.out; omega
              · have HR2 : Hid (unitsL I (L ++ [u0]) (S.drop (i + 1)) = RU) := by
                  unfold Hid
                  rw [← HR.out]
                  conv => rhs; unfold unitsL
                  have hun : unitOf I L ⟨10, sa, sb, sn⟩ = (u0, 0) := by unfold unitOf; rw [if_neg (show ¬ (10 : Int) = 1 by decide), if_neg (show ¬ (10 : Int) = 4 by decide), if_neg (show ¬ (10 : Int) = 5 by decide), if_neg (show ¬ ((10 : Int) = 2 ∨ (10 : Int) = 3 ∨ (10 : Int) = 6) by decide)]
                  rw [hun]; exact (if_pos rfl).symm
                have HX := hid (And.intro hMW hfbW)
                have z0 := h13.cell 0
                have z1 := h13.cell 1
                have z2 := h13.cell 2
                simp only [List.getElem?_cons_zero, List.getElem?_cons_succ] at z0 z1 z2
                have y0 := h12.cell 0
                simp only [List.getElem?_cons_zero] at y0
                clear hMW hfbW hLW h12 h13 hoa hob hnx hn0 HR hio
                have hone : ∀ u ∈ (#[Value.int .i64 0, Value.int .i64 0, Value.int .i64 0] : Array Value).toList, u.oneCell' = true := by intro u hu; simp at hu; rcases hu with rfl | rfl | rfl <;> rfl
                go_wp2_with (at_builtin; refine wpl_appN rfl _ _ 25 rfl 34 _ 3 24 Tryd.underlying25 Tryd.unitInfo rfl (by decide) _ _ _ _ _ HX.out.1 rfl #[.int .i64 0, .int .i64 0, .int .i64 0] rfl hone (by first | rfl | (show Value.slice (some _) 1 1 = Value.slice (some _) 1 1; simp only [World.size_setCell])) hL1 hL2 ?_; intro g2 cap2 w9 hm9 hg9 hBg9 hat9)
                go_roundw
                case rel =>
                  refine ⟨i + 1, L ++ [u0], by go_num, by have := HIN.out; omega, ?_, blk_gr HX.out.1.own hg9 fb _ _ (by decide) HX.out.2, hid (by rw [List.length_append, HL.out]; rfl), HR2⟩
                  have e1 : unitsC (L ++ [u0]) = unitsC L ++ [.int .i64 0, .int .i64 0, .int .i64 0] := by simp [unitsC, uCells, u0]
                  rw [e1]
                  exact hm9
                case measure => simp [intOf]; have := HIN.out; omega
            · have hinI : ¬ (i : Int) < n := by omega
              obtain rfl : i = n := by omega
              have hR : Hid (L = RU.1 ∧ RU.2 = 0) := by
                have := HR.out
                rw [List.drop_of_length_le (by rw [HN.out]; exact Nat.le_refl _)] at this
                unfold unitsL at this
                rw [← this]
                exact ⟨rfl, rfl⟩
              obtain ⟨lo, lc, hu10, hsl, -⟩ := hM.slv (by rw [unitsC_len, HL.out]; unfold maxLen; omega)
              subst hu10
              have HMM := hid hM
              clear hM hfb hsl HR
              go_wp2_with fail
              go_ret2
              refine HPOST.out _ _ ⟨.slice lo i lc, i, by rw [hR.out.2]; rfl, by rw [← hR.out.1, HL.out], ?_⟩
              rw [← hR.out.1, HFBN.out]
              exact HMM.out
    · have hm4I : ¬ (m : Int) = 4 := by omega
      have hR : RU = ([], 1) := by
        rw [← HRU.out]
        exact if_neg (by rintro ⟨-, h, -⟩; exact hm4 h)
      subst hR
      clear hn hm hsl
      go_wp2_with fail
      go_ret2
      exact HBAD.out _ _ rfl (by rw [HFBN.out]; exact hB1)
end Go.Proofs.YtogcnmjipfllaaaDoor
