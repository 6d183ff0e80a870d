/- mount: the reference's Plan -/
import Derived.Test.YtiimngmkndfegaaMountRef2
import Derived.Test.YtiimngmkndfegaaLib2
namespace Go.Proofs.Ytiimngmkndfegaa
open Go.RowKit

theorem Try.info22 : (Try.prog.info? 22).map (fun i => (i.zero, i.size, i.bytes)) = some (some (.slice none 0 0), 1, 24) := by kernel_rfl

/-- a slice of ints in a block of the kind S -/
def RowIn (S : Nat → Prop) (w : World) (l : List Int) (v : Value) : Prop :=
  ∃ b cap cur, S b ∧ v = .slice (some ⟨b, 0, none⟩) l.length cap ∧ cap ≤ maxLen ∧ Blk w b 3 cur ∧ ∀ (i : Nat) (x : Int), l[i]? = some x → cur[i]? = some (Value.int .i64 x)
theorem RowIn.keep {S S' : Nat → Prop} {w w' : World} {l : List Int} {v : Value} (h : RowIn S w l v) (hk : ∀ b, S b → b < w.heap.size → w'.heap[b]? = w.heap[b]? ∧ S' b) : RowIn S' w' l v := by
  obtain ⟨b, cap, cur, h1, h2, h3, h4, h5⟩ := h
  obtain ⟨k1, k2⟩ := hk b h1 h4.lt
  exact ⟨b, cap, cur, k2, h2, h3, k1.trans h4, h5⟩
theorem Mine.rowIn {B : Nat} {w0 w : World} {v : Value} {l : List Int} (h : Mine B w0 w 3 v (l.map (Value.int .i64))) (hne : l ≠ []) : RowIn (fun b => B ≤ b) w l v := by
  obtain ⟨g, cap, cur, hv, hg, hb, hc1, hc2, hrd⟩ := h.open (by simpa using hne)
  refine ⟨g, cap, cur, hg, by simpa using hv, hc2, hb, fun i x hi => ?_⟩
  have hlt : i < l.length := (List.getElem?_eq_some_iff.1 hi).1
  rw [hrd i (by simpa using hlt)]; simp [hi]
theorem Mine.slv {B : Nat} {w0 w : World} {E : TypeId} {v : Value} {xs : List Value} (h : Mine B w0 w E v xs) : ∃ ao cap, v = .slice ao xs.length cap ∧ SlV w ao xs ∧ (∀ b off, ao = some ⟨b, off, none⟩ → B ≤ b) := by
  by_cases hl : xs = []
  · subst hl
    rcases h.own.2 with ⟨e, _⟩ | ⟨g, cap, cur, hv, hg, _⟩
    · exact ⟨none, 0, e, ⟨by simp, by simp⟩, fun _ _ h => by cases h⟩
    · exact ⟨_, cap, hv, ⟨by simp, by simp⟩, fun _ _ h => by cases h; exact hg⟩
  · obtain ⟨g, cap, cur, hv, hg, hb, hc1, hc2, hrd⟩ := h.open hl
    refine ⟨some ⟨g, 0, none⟩, cap, hv, ⟨Nat.le_trans hc1 hc2, fun i x hi => ⟨g, 0, rfl, hb.lt, ?_⟩⟩, fun _ _ h => by cases h; exact hg⟩
    have hlt : i < xs.length := (List.getElem?_eq_some_iff.1 hi).1
    rw [hb.cell, Nat.zero_add, hrd i hlt, hi]
theorem SlV.chg {S : Nat → Prop} {w w' : World} {ao : Option Addr} {l : List Value} (h : SlV w ao l) (hc : Chg S w w') (hs : ∀ b off, ao = some ⟨b, off, none⟩ → b < w.heap.size → ¬ S b) : SlV w' ao l :=
  ⟨h.len, fun i x hi => by
    obtain ⟨b, off, e, hb, hx⟩ := h.cell i x hi
    exact ⟨b, off, e, Nat.lt_of_lt_of_le hb hc.size, by rw [← hx]; exact World.cell?_of_block (w := w) (hc.block b hb (hs b off e hb))⟩⟩

/-- the first k rows of positions -/
def Rows1 (S : Nat → Prop) (cs : List Int) (w : World) (k : Nat) (vs : List Value) : Prop := ∀ j c, j < k → cs[j]? = some c → ∃ u, vs[j]? = some u ∧ RowIn S w (reachL c) u


theorem Rows1.keep {S S' : Nat → Prop} {cs : List Int} {w w' : World} {k : Nat} {vs : List Value} (h : Rows1 S cs w k vs) (hk : ∀ b, S b → b < w.heap.size → w'.heap[b]? = w.heap[b]? ∧ S' b) : Rows1 S' cs w' k vs :=
  fun j c hj hc => by obtain ⟨u, h1, h2⟩ := h j c hj hc; exact ⟨u, h1, h2.keep hk⟩
theorem Rows1.snoc {S : Nat → Prop} {cs : List Int} {w : World} {k : Nat} {vs : List Value} {u : Value} {c : Int} (h : Rows1 S cs w k vs) (hl : vs.length = k) (hc : cs[k]? = some c) (hu : RowIn S w (reachL c) u) : Rows1 S cs w (k + 1) (vs ++ [u]) :=
  fun j d hj hd => by
    by_cases e : j = k
    · subst e
      obtain rfl : d = c := Option.some.inj (hd.symm.trans hc)
      exact ⟨u, by rw [← hl]; simp, hu⟩
    · obtain ⟨x, h1, h2⟩ := h j d (by omega) hd
      exact ⟨x, by rw [List.getElem?_append_left (by omega)]; exact h1, h2⟩

/-- the lengths that are left behind the positions of column j on -/
def LeftOk (S : Nat → Prop) (cs : List Int) (w : World) (k : Nat) (L : List Value) : Prop :=
  (∀ j, j < k → L[j]? = some (.slice none 0 0)) ∧ ∀ j c, k ≤ j → cs[j]? = some c → ∃ u, L[j]? = some u ∧ RowIn S w ((reachL c).map (lenF (cs.drop (j + 1)))) u
/-- the least of the first j ways on -/
def PartL (on : Int → Int) (p : Int) (ps : List Int) (j : Nat) (least : Int) : Prop := (j = 0 ∧ least = 0) ∨ (0 < j ∧ least = leastBy on p (ps.take j))
theorem PartL.step {on : Int → Int} {p : Int} {ps : List Int} {j : Nat} {least q : Int} (h : PartL on p ps j least) (hq : ps[j]? = some q) (hb : max (p - q) (q - p) + on q ≤ 1073741824) :
    PartL on p ps (j + 1) (if j = 0 ∨ max (p - q) (q - p) + on q < least then max (p - q) (q - p) + on q else least) := by
  refine .inr ⟨by omega, ?_⟩
  rw [take_snoc' _ j q hq, leastBy_snoc]
  rcases h with ⟨rfl, rfl⟩ | ⟨h0, rfl⟩
  · simp [leastBy]; omega
  · split <;> omega
theorem PartL.bd {on : Int → Int} {p : Int} {ps : List Int} {j : Nat} {least : Int} (h : PartL on p ps j least) (ho : ∀ p ∈ ps, 0 ≤ on p) : 0 ≤ least ∧ least ≤ 1073741824 := by
  rcases h with ⟨rfl, rfl⟩ | ⟨h0, rfl⟩
  · omega
  · exact ⟨leastBy_ge _ _ _ (fun q hq => ho q (List.mem_of_mem_take hq)), leastBy_le _ _ _⟩

set_option maxHeartbeats 1600000 in
set_option maxRecDepth 100000 in
theorem rplan_good (at0 : Int) (ao : Option Addr) (cap : Nat) (cs : List Int) (w : World) (hi : isB at0 = true) (hl : cs.length ≤ 40) (hcs : SlI w ao cs) :
    Calls Try.prog 14 #[.int .i64 at0, .slice ao cs.length cap] w (PlanPost at0 cs w) := by
  have hl2 : (cs.length : Int) ≤ 40 := by omega
  go_enter Try.func14, Try.ntmps14
  go_wp2_with (first | (go_at_call 23; refine (ris_any _ _).mono ?_; rintro e w' ⟨rfl, rfl⟩))
  go_loopw [8, 9] (fun s8 s9 wr => ∃ (k : Nat) (vs : List Value) (v8 : Value), s9 = .int .i64 k ∧ v8 = s8 ∧ k ≤ cs.length ∧ vs.length = k ∧ Mine w.heap.size w wr 22 v8 vs ∧ (∀ j c, j < k → cs[j]? = some c → 0 ≤ c ∧ c < 32) ∧ Rows1 (fun b => some b ≠ v8.ownBlock ∧ w.heap.size ≤ b) cs wr k vs) (fun _ s9 _ => cs.length - (intOf s9).toNat)
  case atStart => exact ⟨0, [], _, rfl, rfl, by omega, rfl, Mine.start (Below.refl _ _) (Nat.le_refl _), fun j c h => by omega, fun j c h => by omega⟩
  case round =>
    obtain ⟨k, vs, v8, rfl, rfl, hk, hvl, hm, hval, hrows⟩ := hrel
    have Hval := hid hval
    have Hrows := hid hrows
    clear hval hrows
    by_cases hlt : k < cs.length
    · obtain ⟨c, hc⟩ : ∃ c, cs[k]? = some c := ⟨_, List.getElem?_eq_getElem hlt⟩
      obtain ⟨b, off, rfl, hb, hx0⟩ := hcs.cell k c hc
      have hx := (hm.below.cell hb).trans hx0
      clear hx0
      have HC := hid hc
      clear hc
      have hI1 : (k : Int) < (cs.length : Int) := by omega
      by_cases hcol : 0 ≤ c ∧ c < 32
      · obtain ⟨h0, h1⟩ := hcol
        have hne := reachL_ne c h0 h1
        go_wp2_with fail
        refine (rreach_any c _ h0 h1).mono ?_
        rintro e w6 ⟨v, rfl, hm6⟩
        have hri := hm6.rowIn hne
        have hm60 := hm6
        obtain ⟨ao6, cap6, rfl, hs6⟩ := hm6.sl
        have hmb := hm.base
        have hown := fun q (h : v8.ownBlock = some q) => hm.own.lt q h
        have hmm : Mine w.heap.size w w6 22 v8 vs := ⟨ownsRow_chg hm.own (Chg.below (S := fun q => wr.heap.size ≤ q) (Chg.refl _ wr) hm6.below (fun q _ h => h)) (fun q hq => by have := (hm.own.lt q hq).2; omega), hm.below.trans (hm6.below.mono hmb), Nat.le_trans hmb hm6.below.size⟩
        have hL1 : vs.length + 1 ≤ maxLen := by unfold maxLen; omega
        have hL2 : (vs.length + 1) * 24 ≤ 140737488355328 := by omega
        have Hri := hid hri
        have hb6 := hm6.below
        have h6 := hm6.below.size
        go_wp2_with (at_builtin; refine wpl_app1 rfl _ _ 48 rfl 22 _ _ Try.underlying48 Try.info22 rfl _ _ _ _ hmm rfl _ rfl rfl hL1 hL2 ?_; intro g1 cap1 w1 hm1 hg1 hB1 hat1)
        go_roundw
        case rel =>
          refine ⟨k + 1, vs ++ [_], _, by go_num, rfl, by omega, by simp; omega, (by have h := hm1; rw [hvl] at h; exact h), fun j d hj hd => ?_, ?_⟩
          · by_cases e : j = k
            · subst e
              obtain rfl : d = c := Option.some.inj (hd.symm.trans HC.out)
              exact ⟨h0, h1⟩
            · exact Hval.out j d (by omega) hd
          · have hne8 : ∀ q, (some q ≠ v8.ownBlock) → q < w6.heap.size → some q ≠ some g1 := by
              intro q hq hq2 e
              cases e
              rcases hat1 with h | h
              · exact hq h.symm
              · omega
            refine Rows1.snoc (Rows1.keep Hrows.out (fun q hq hq2 => ?_)) hvl HC.out (Hri.out.keep (fun q hq hq2 => ?_))
            · exact ⟨(hg1.block q (by omega) hq.1).trans (hb6.block q hq2), hne8 q hq.1 (by omega), hq.2⟩
            · have hq1 : some q ≠ v8.ownBlock := fun e => by have := (hown q e.symm).2; omega
              exact ⟨hg1.block q hq2 hq1, hne8 q hq1 hq2, by omega⟩
        case measure => simp [intOf]; omega
      · have HN := hid hcol
        clear hcol
        go_wp2_with (first | (go_at_call 10; refine (rreach_no _ _ HN.out).mono ?_; rintro e w' ⟨rfl, rfl⟩))
        go_ret3
        refine ⟨fun _ => ⟨rfl, hm.below⟩, fun hk => ?_⟩
        exfalso
        apply HN.out
        exact ((planOk_iff _ _).1 hk).2.2 c (List.mem_of_getElem? HC.out)
    · have hkl : k = cs.length := by omega
      obtain ⟨ao8, cap8, hv8e, hv8, hB8⟩ := hm.slv
      rw [hvl, hkl] at hv8e
      subst hv8e
      have hrw := Hrows.out.keep (S' := fun b => w.heap.size ≤ b) (w' := wr) (fun q hq _ => ⟨rfl, hq.2⟩)
      have hcv := Hval.out
      rw [hkl] at hvl hrw hcv
      have HE := hid (show (k : Int) = (cs.length : Int) by omega)
      have hI1 : ¬ (k : Int) < (cs.length : Int) := by omega
      have hB := hm.below
      have hbz := hm.base
      have Hrw := hid hrw
      have Hcv := hid hcv
      have h1len := hvl
      clear Hval Hrows hrw hcv hkl hm hvl hlt hk
      go_wp2_with (refine wpl_make rfl _ _ 48 rfl _ _ _ Try.underlying48 Try.info22 rfl _ _ (cs.length + 1) rfl rfl (by omega) (by omega) (by omega) (by unfold maxLen; omega) ?_; intro w2 gl hgl0 hgl1 hgl hg2)
      have hB2 : Below w.heap.size w w2 := hB.trans (grown_below hg2 hbz (by simp))
      have hv2 : SlV w2 ao8 vs := hv8.chg (S := fun _ => False) ((Chg.refl _ wr).grown hg2 (by simp)) (fun _ _ _ _ h => h)
      have hv2b : ∀ b off, ao8 = some ⟨b, off, none⟩ → vs ≠ [] → b < gl := by
        intro b off e hne
        obtain ⟨u, us, rfl⟩ := List.exists_cons_of_ne_nil hne
        obtain ⟨b', off', e', hb', _⟩ := hv8.cell 0 u rfl
        rw [e] at e'; cases e'; omega
      have hrw2 : Rows1 (fun b => b < gl) cs w2 cs.length vs := Hrw.out.keep (fun q hq hq2 => ⟨hg2.block q hq2 (by simp), by omega⟩)
      have hcs2 : SlI w2 ao cs := hcs.below hB2
      have Hrw2 := hid hrw2
      have Hv2b := hid hv2b
      clear Hrw hrw2 hv2b hg2 hv8 hB8 hB
      go_loopw [13] (fun s13 wq => ∃ (k : Nat) (i : Int) (L : List Value), i = (k : Int) - 1 ∧ s13 = .int .i64 i ∧ k ≤ cs.length ∧ Chg (fun q => q = gl ∨ w2.heap.size ≤ q) w2 wq ∧ Blk wq gl 22 L ∧ L.length = cs.length + 1 ∧
          LeftOk (fun b => w2.heap.size ≤ b) cs wq k L) (fun s13 _ => (intOf s13 + 1).toNat)
      case atStart =>
        refine ⟨cs.length, _, List.replicate (cs.length + 1) (.slice none 0 0), rfl, rfl, Nat.le_refl _, Chg.refl _ _, hgl, by simp, fun j hj => by rw [List.getElem?_replicate, if_pos (by omega)], fun j c hj hc => ?_⟩
        have := (List.getElem?_eq_some_iff.1 hc).1
        omega
      case round =>
        obtain ⟨wo, hwo⟩ : ∃ wo : World, wo = wr := ⟨_, rfl⟩
        subst hwo
        obtain ⟨k, i, L, hik, rfl, hk, hch, hgl3, hLl, hL⟩ := hrel
        have HL := hid hL
        clear hL
        cases k with
        | zero =>
          obtain rfl : i = -1 := by omega
          clear hik
          have hat0 : -48 ≤ at0 ∧ at0 ≤ 48 := by simpa [isB] using hi
          obtain ⟨hat1, hat2⟩ := hat0
          have hgl2 := hB2.size
          have hvo : SlV wo ao8 vs := by
            by_cases hz : vs = []
            · subst hz; exact ⟨by simp, by simp⟩
            · exact hv2.chg hch (fun b off e hb h => by have := Hv2b.out b off e hz; omega)
          have hw2o := hch.size
          have hB0 : Below w.heap.size w wo := hB2.trans (hch.toBelow hB2.size (fun x h => by omega))
          go_wp2
          go_loopw [0, 18, 19, 20] (fun s0 s18 s19 s20 wx => ∃ (k : Nat) (at_ tot : Int) (xs : List Int) (v : Value), s20 = .int .i64 k ∧ s0 = .int .i64 at_ ∧ s19 = .int .i64 tot ∧ v = s18 ∧ k ≤ cs.length ∧ -48 ≤ at_ ∧ at_ ≤ 48 ∧
              Mine wo.heap.size wo wx 3 v (xs.map (Value.int .i64)) ∧ xs.length = k ∧ xs ++ planL at_ (cs.drop k) = planL at0 cs ∧ 0 ≤ tot ∧ tot + lenF (cs.drop k) at_ = lenF cs at0) (fun _ _ _ s20 _ => cs.length - (intOf s20).toNat)
          case atStart => exact ⟨0, at0, 0, [], _, rfl, rfl, rfl, rfl, by omega, hat1, hat2, Mine.start (Below.refl _ _) (Nat.le_refl _), rfl, by simp, by omega, by simp⟩
          case round =>
            obtain ⟨wx, hwx⟩ : ∃ wx : World, wx = wr := ⟨_, rfl⟩
            subst hwx
            obtain ⟨k, at_, tot, xs, v, rfl, rfl, rfl, rfl, hk, ha1, ha2, hmx, hxl, hpl, htot0, htot⟩ := hrel
            have Hpl := hid hpl
            have Htot := hid htot
            clear hpl htot
            by_cases hlt : k < cs.length
            · obtain ⟨c, hc⟩ : ∃ c, cs[k]? = some c := ⟨_, List.getElem?_eq_getElem hlt⟩
              obtain ⟨h0, h1⟩ := Hcv.out k c hlt hc
              obtain ⟨u, hu, bc, capc, curc, hbc1, rfl, hcapc, hbc, hcc⟩ := Hrw2.out k c hlt hc
              obtain ⟨u', hu', be, cape, cure, hbe1, rfl, hcape, hbe, hce⟩ := HL.out.2 k c (by omega) hc
              unfold maxLen at hcapc hcape
              have hne := reachL_ne c h0 h1
              have hc4 : (reachL c).length ≤ 4 := reachTo_len c 4
              have hlpos : 0 < (reachL c).length := List.length_pos_iff.2 hne
              obtain ⟨b8, off8, rfl, hb8, hx8⟩ := hvo.cell k _ hu
              have hdrop : cs.drop k = c :: cs.drop (k + 1) := by
                rw [List.drop_eq_getElem_cons hlt]
                have hce : cs[k] = c := by rw [List.getElem?_eq_getElem hlt] at hc; exact Option.some.inj hc
                rw [hce]
              have hbclt := hbc.lt
              have hbelt := hbe.lt
              have hbcx := (hbc.chg hch (fun h => by omega)).below hmx.below (by omega)
              have hbex := hbe.below hmx.below (by omega)
              have hglx := hgl3.below hmx.below hgl3.lt
              have hx8x := (hmx.below.cell (p := ⟨b8, off8 + k, none⟩) hb8).trans hx8
              have hgc := hglx.cell k
              rw [hu'] at hgc
              have HF := hid (fun b p hfm hp => fm_plan at_ c (cs.drop (k + 1)) b p ⟨ha1, ha2⟩ (fun x hx => by
                rw [← hdrop] at hx
                obtain ⟨y, hy⟩ := List.getElem?_of_mem hx
                rw [List.getElem?_drop] at hy
                exact Hcv.out _ x (List.getElem?_eq_some_iff.1 hy).1 hy) (by rw [List.length_drop]; omega) hfm hp)
              rw [List.length_map] at *
              have Hdrop := hid hdrop
              have Hcc := hid hcc
              have Hce := hid hce
              have hI1 : (k : Int) < (cs.length : Int) := by omega
              clear hx8 hu hu' hc hdrop hcc hce
              go_wp2
              go_loopw [21, 22] (fun s21 s22 wy => ∃ (q b : Nat), s22 = .int .i64 q ∧ s21 = .int .i64 b ∧ q ≤ (reachL c).length ∧ Chg (fun _ => False) wx wy ∧ FM (fun i => max (at_ - (reachL c).getD i 0) ((reachL c).getD i 0 - at_) + lenF (cs.drop (k + 1)) ((reachL c).getD i 0)) q b) (fun _ s22 _ => (reachL c).length - (intOf s22).toNat)
              case atStart => exact ⟨1, 0, rfl, rfl, by omega, Chg.refl _ _, FM.start _⟩
              case round =>
                obtain ⟨wy, hwy⟩ : ∃ wy : World, wy = wr := ⟨_, rfl⟩
                subst hwy
                obtain ⟨q, b, rfl, rfl, hq, hchy, hfm⟩ := hrel
                have hblt := hfm.lt
                have hx8y := (World.cell?_of_block (w := wx) (a := ⟨b8, off8 + k, none⟩) (hchy.block b8 (by have := hmx.base; omega) (fun h => h))).trans hx8x
                have hbcy := hbcx.chg hchy (fun h => h)
                have hbey := hbex.chg hchy (fun h => h)
                have hgcy := (World.cell?_of_block (w := wx) (a := ⟨gl, k, none⟩) (hchy.block gl hglx.lt (fun h => h))).trans hgc
                obtain ⟨p, hp⟩ : ∃ p, (reachL c)[b]? = some p := ⟨_, List.getElem?_eq_getElem (by omega)⟩
                obtain ⟨hp1, hp2⟩ := reachL_mem c p (List.mem_of_getElem? hp)
                have hpc : wy.cell? ⟨bc, b, none⟩ = some (.int .i64 p) := by rw [hbcy.cell]; exact Hcc.out b p hp
                have hpl : wy.cell? ⟨be, b, none⟩ = some (.int .i64 (lenF (cs.drop (k + 1)) p)) := by rw [hbey.cell]; exact Hce.out b _ (by simp [hp])
                have hpd : (reachL c).getD b 0 = p := by rw [List.getD, hp]; rfl
                have HD := hid (fun w' => turned (rdist_any at_ p (by omega) (by omega) (by omega) (by omega) w'))
                obtain ⟨b1, b2⟩ := lenF_bd (cs.drop (k + 1)) p
                by_cases hql : q < (reachL c).length
                · obtain ⟨r, hr⟩ : ∃ r, (reachL c)[q]? = some r := ⟨_, List.getElem?_eq_getElem hql⟩
                  obtain ⟨hr1, hr2⟩ := reachL_mem c r (List.mem_of_getElem? hr)
                  have hrc : wy.cell? ⟨bc, q, none⟩ = some (.int .i64 r) := by rw [hbcy.cell]; exact Hcc.out q r hr
                  have hrl : wy.cell? ⟨be, q, none⟩ = some (.int .i64 (lenF (cs.drop (k + 1)) r)) := by rw [hbey.cell]; exact Hce.out q _ (by simp [hr])
                  have hrd : (reachL c).getD q 0 = r := by rw [List.getD, hr]; rfl
                  have HR := hid (fun w' => turned (rdist_any at_ r (by omega) (by omega) (by omega) (by omega) w'))
                  obtain ⟨b3, b4⟩ := lenF_bd (cs.drop (k + 1)) r
                  have hI2 : (q : Int) < ((reachL c).length : Int) := by omega
                  clear hp hr
                  by_cases hless : max (at_ - r) (r - at_) + lenF (cs.drop (k + 1)) r < max (at_ - p) (p - at_) + lenF (cs.drop (k + 1)) p
                  · have HN := hid (hfm.less (by simp only [hpd, hrd]; exact hless))
                    clear hfm hpd hrd
                    go_wp2_with fail
                    refine wp_region_quiet_all (by kernel_rfl) (by kernel_rfl) ?_; (repeat (go_big_quiet_step (fail)))
                    go_big_quiet_want; go_big_quiet_op; refine ⟨_, HR.out _, ?_⟩; go_big_quiet_on; (repeat (go_big_quiet_step (fail)))
                    go_big_quiet_want; go_big_quiet_op; refine ⟨_, HD.out _, ?_⟩; go_big_quiet_on; (repeat (go_big_quiet_step (fail)))
                    (repeat (go_big_quiet_step (fail))); refine wpQuiet_end ?_
                    go_wp2
                    go_roundw
                    case rel => exact ⟨q + 1, q, by go_num, rfl, by omega, hchy.drew, HN.out⟩
                    case measure => simp [intOf] <;> omega
                  · have HN := hid (hfm.keep (by simp only [hpd, hrd]; exact hless))
                    clear hfm hpd hrd
                    go_wp2_with fail
                    refine wp_region_quiet_all (by kernel_rfl) (by kernel_rfl) ?_; (repeat (go_big_quiet_step (fail)))
                    go_big_quiet_want; go_big_quiet_op; refine ⟨_, HR.out _, ?_⟩; go_big_quiet_on; (repeat (go_big_quiet_step (fail)))
                    go_big_quiet_want; go_big_quiet_op; refine ⟨_, HD.out _, ?_⟩; go_big_quiet_on; (repeat (go_big_quiet_step (fail)))
                    (repeat (go_big_quiet_step (fail))); refine wpQuiet_end ?_
                    go_wp2
                    go_roundw
                    case rel => exact ⟨q + 1, b, by go_num, rfl, by omega, hchy.drew, HN.out⟩
                    case measure => simp [intOf] <;> omega
                · have hqe : q = (reachL c).length := by omega
                  have hI2 : ¬ (q : Int) < ((reachL c).length : Int) := by omega
                  rw [hqe] at hfm
                  obtain ⟨e1, e2, _⟩ := HF.out b p hfm hp
                  have htot' := Htot.out
                  have hpl' := Hpl.out
                  rw [Hdrop.out, ← e2] at htot'
                  rw [Hdrop.out, e1] at hpl'
                  have hsm := (lenF_bd cs at0).2
                  have HT := hid htot'
                  have HP := hid hpl'
                  have hmm : Mine wo.heap.size wo wy 3 v (xs.map (Value.int .i64)) := ⟨ownsRow_chg hmx.own hchy (fun _ _ h => h), hmx.below.trans (hchy.toBelow hmx.base (fun _ h => h.elim)), Nat.le_trans hmx.base hchy.size⟩
                  have hL1 : (xs.map (Value.int .i64)).length + 1 ≤ maxLen := by unfold maxLen; simp; omega
                  have hL2 : ((xs.map (Value.int .i64)).length + 1) * 8 ≤ 140737488355328 := by simp; omega
                  have hI3 : tot ≤ 1073741824 := by omega
                  clear hfm hqe e1 e2 htot' hpl' hp hpd hsm
                  go_wp2_with fail
                  refine (HD.out _).mono ?_
                  rintro e w' ⟨rfl, rfl⟩
                  go_wp2_with (at_builtin; refine wpl_app1 rfl _ _ 22 rfl 3 _ _ Try.underlying22 Try.info3 rfl _ _ _ _ hmm rfl _ rfl rfl hL1 hL2 ?_; intro g1 cap1 w1 hm1 hg1 hB1 hat1)
                  go_roundw
                  case rel =>
                    refine ⟨k + 1, p, tot + max (at_ - p) (p - at_), xs ++ [p], _, by go_num, rfl, by go_num, rfl, by omega, hp1, hp2, (by have h := hm1; simp only [List.length_map, hxl] at h; simpa using h), by simp; omega, ?_, by omega, ?_⟩
                    · rw [← HP.out]; simp
                    · have := HT.out; omega
                  case measure => simp [intOf] <;> omega
            · have hkl : k = cs.length := by omega
              have HK := hid hkl
              have hI1 : ¬ (k : Int) < (cs.length : Int) := by omega
              clear hkl
              go_wp2
              go_ret3
              have hpl := Hpl.out
              have htt := Htot.out
              rw [HK.out, List.drop_length] at hpl htt
              simp only [planL, List.append_nil] at hpl
              simp only [lenF, Int.add_zero] at htt
              refine ⟨fun hk => ?_, fun _ => ⟨v, ?_, ?_⟩⟩
              · exfalso
                have : planOk at0 cs = true := (planOk_iff _ _).2 ⟨⟨hat1, hat2⟩, hl, fun c hc => by
                  obtain ⟨y, hy⟩ := List.getElem?_of_mem hc
                  exact Hcv.out y c (List.getElem?_eq_some_iff.1 hy).1 hy⟩
                rw [this] at hk; cases hk
              · rw [← htt]; rfl
              · rw [← hpl]
                exact ⟨by simpa using ownsRow_mono hmx.own hB0.size, hB0.trans (hmx.below.mono hB0.size), Nat.le_trans hB0.size hmx.base⟩
        | succ m =>
          obtain rfl : i = (m : Int) := by omega
          clear hik
          have hm : m < cs.length := by omega
          obtain ⟨c, hc⟩ : ∃ c, cs[m]? = some c := ⟨_, List.getElem?_eq_getElem hm⟩
          obtain ⟨h0, h1⟩ := Hcv.out m c hm hc
          obtain ⟨u, hu, bc, capc, curc, hbc1, rfl, hcapc, hbc, hcc⟩ := Hrw2.out m c hm hc
          unfold maxLen at hcapc
          have hne := reachL_ne c h0 h1
          have hc4 : (reachL c).length ≤ 4 := reachTo_len c 4
          have hlpos : 0 < (reachL c).length := List.length_pos_iff.2 hne
          have hvo := hv2.chg hch (fun b off e hb h => by have := Hv2b.out b off e (by intro e; rw [e] at hu; simp at hu); omega)
          obtain ⟨b8, off8, rfl, hb8, hx8⟩ := hvo.cell m _ hu
          have hb8g := Hv2b.out b8 off8 rfl (by intro e; rw [e] at hu; simp at hu)
          have hS : ∀ x, x < wo.heap.size → x ≠ gl → ¬ (x = gl ∨ wo.heap.size ≤ x) := fun x h1 h2 h => by omega
          have hw2o := hch.size
          have hbco := hbc.chg hch (fun h => by omega)
          have hbclt := hbc.lt
          have hLm := HL.out.1 m (by omega)
          have hLset : L.set m (.slice none 0 0) = L := by
            apply List.ext_getElem?
            intro j
            rw [List.getElem?_set]
            split
            · rename_i e; subst e; rw [if_pos (by omega), hLm]
            · rfl
          have Hc := hid hc
          have Hu := hid hu
          have Hcc := hid hcc
          have hm1 : (m : Int) < (cs.length : Int) := by omega
          have HS := hid hS
          clear hc hu hcc hS hLm
          go_wp2
          go_loopw [14] (fun s14 wx => ∃ (q : Nat) (v : Value), s14 = .int .i64 q ∧ q ≤ (reachL c).length ∧ Chg (fun x => x = gl ∨ wo.heap.size ≤ x) wo wx ∧ Blk wx gl 22 (L.set m v) ∧
              wx.ownsRow wo.heap.size 3 1 v q (((reachL c).take q).map fun p => Value.int .i64 (lenF (cs.drop (m + 1)) p))) (fun s14 _ => (reachL c).length - (intOf s14).toNat)
          case atStart => exact ⟨0, _, rfl, by omega, Chg.refl _ _, by rw [hLset]; exact hgl3, World.ownsRow_nil _ _ _ _⟩
          case round =>
            obtain ⟨wx, hwx⟩ : ∃ wx : World, wx = wr := ⟨_, rfl⟩
            subst hwx
            obtain ⟨q, v, rfl, hq, hchx, hglx, hown⟩ := hrel
            have hx8x : wx.cell? ⟨b8, off8 + m, none⟩ = _ := (World.cell?_of_block (w := wo) (hchx.block b8 hb8 (HS.out b8 hb8 (by omega)))).trans hx8
            have hbcx := hbco.chg hchx (HS.out bc (by omega) (by omega))
            by_cases hlt : q < (reachL c).length
            · obtain ⟨p, hp⟩ : ∃ p, (reachL c)[q]? = some p := ⟨_, List.getElem?_eq_getElem hlt⟩
              have hpc : wx.cell? ⟨bc, q, none⟩ = some (.int .i64 p) := by rw [hbcx.cell]; exact Hcc.out q p hp
              have hI2 : (q : Int) < ((reachL c).length : Int) := by omega
              obtain ⟨hp1, hp2⟩ := reachL_mem c p (List.mem_of_getElem? hp)
              have Hp := hid hp
              clear hp
              go_wp2
              clear hpc
              go_loopw [15, 16] (fun s15 s16 wy => ∃ (j : Nat) (least : Int), s16 = .int .i64 j ∧ s15 = .int .i64 least ∧ Chg (fun _ => False) wx wy ∧ (m + 1 = cs.length → j = 0) ∧
                  (∀ d, cs[m + 1]? = some d → j ≤ (reachL d).length) ∧ PartL (lenF (cs.drop (m + 2))) p ((cs[m + 1]?).elim [] reachL) j least) (fun _ s16 _ => ((cs[m + 1]?).elim [] reachL).length - (intOf s16).toNat)
              case atStart => exact ⟨0, 0, rfl, rfl, Chg.refl _ _, fun _ => rfl, fun _ _ => by omega, .inl ⟨rfl, rfl⟩⟩
              case round =>
                obtain ⟨wy, hwy⟩ : ∃ wy : World, wy = wr := ⟨_, rfl⟩
                subst hwy
                obtain ⟨j, least, rfl, rfl, hchy, hj0, hj1, hpart⟩ := hrel
                have hx8y : wy.cell? ⟨b8, off8 + m, none⟩ = _ := (World.cell?_of_block (w := wx) (hchy.block b8 (by have := hchx.size; omega) (fun h => h))).trans hx8x
                have hbcy := hbcx.chg hchy (fun h => h)
                have hgly := hglx.chg hchy (fun h => h)
                have hpc : wy.cell? ⟨bc, q, none⟩ = some (.int .i64 p) := by rw [hbcy.cell]; exact Hcc.out q p Hp.out
                by_cases hn : m + 1 < cs.length
                · obtain ⟨d, hd⟩ : ∃ d, cs[m + 1]? = some d := ⟨_, List.getElem?_eq_getElem hn⟩
                  obtain ⟨u', hu', bd, capd, curd, hbd1, rfl, hcapd, hbd, hcd⟩ := Hrw2.out (m + 1) d hn hd
                  obtain ⟨u'', hu'', be, cape, cure, hbe1, rfl, hcape, hbe, hce⟩ := HL.out.2 (m + 1) d (by omega) hd
                  unfold maxLen at hcapd hcape
                  have hd4 : (reachL d).length ≤ 4 := reachTo_len d 4
                  have hjl := hj1 d hd
                  have hbdlt := hbd.lt
                  have hbelt := hbe.lt
                  have hbdy := ((hbd.chg hch (fun h => by omega)).chg hchx (HS.out bd (by omega) (by omega))).chg hchy (fun h => h)
                  have hbey := (hbe.chg hchx (HS.out be (by omega) (by omega))).chg hchy (fun h => h)
                  have hgc := hgly.cell (m + 1)
                  rw [List.getElem?_set_ne (by omega), hu''] at hgc
                  obtain ⟨b8', off8', e8, hb8', hx9⟩ := hvo.cell (m + 1) _ hu'
                  cases e8
                  have hx9y : wy.cell? ⟨b8, off8 + (m + 1), none⟩ = _ := (World.cell?_of_block (w := wx) (hchy.block b8 (by have := hchx.size; omega) (fun h => h))).trans ((World.cell?_of_block (w := wo) (hchx.block b8 hb8 (HS.out b8 hb8 (by omega)))).trans hx9)
                  clear hx9
                  rw [hd] at hpart
                  simp only [Option.elim_some] at hpart
                  have hI3 : (m : Int) + 1 < (cs.length : Int) := by omega
                  have Hd := hid hd
                  clear hd hu' hu''
                  by_cases hjlt : j < (reachL d).length
                  · obtain ⟨r, hr⟩ : ∃ r, (reachL d)[j]? = some r := ⟨_, List.getElem?_eq_getElem hjlt⟩
                    obtain ⟨hr1, hr2⟩ := reachL_mem d r (List.mem_of_getElem? hr)
                    have hrc : wy.cell? ⟨bd, j, none⟩ = some (.int .i64 r) := by rw [hbdy.cell]; exact hcd j r hr
                    have hlc : wy.cell? ⟨be, j, none⟩ = some (.int .i64 (lenF (cs.drop (m + 2)) r)) := by rw [hbey.cell]; exact hce j _ (by simp [hr])
                    obtain ⟨b1, b2⟩ := lenF_bd (cs.drop (m + 2)) r
                    have hI4 : (j : Int) < ((reachL d).length : Int) := by omega
                    have HD := hid (fun w' => turned (rdist_any p r (by omega) (by omega) (by omega) (by omega) w'))
                    have hsm := lenF_small (cs.drop (m + 2)) r ⟨hr1, hr2⟩ (fun x hx => by
                      obtain ⟨y, hy⟩ := List.getElem?_of_mem hx
                      rw [List.getElem?_drop] at hy
                      exact Hcv.out _ x (List.getElem?_eq_some_iff.1 hy).1 hy)
                    rw [List.length_drop] at hsm
                    have hps := hpart.step hr (by omega)
                    clear hsm
                    have hbb := hpart.bd (fun q _ => (lenF_bd _ q).1)
                    obtain ⟨bb1, bb2⟩ := hbb
                    rw [List.length_map] at *
                    generalize lenF (cs.drop (m + 2)) r = on at *
                    have HPS := hid hps
                    have HDD := Hd
                    clear hps hpart hr
                    cases hjz : ((j : Int) == 0) with
                    | true =>
                      have hjz' : j = 0 := by simpa using hjz
                      rw [if_pos (.inl hjz')] at HPS
                      clear hjz'
                      go_wp2_with fail
                      refine wp_region_quiet_all (by kernel_rfl) (by kernel_rfl) ?_; (repeat (go_big_quiet_step (fail)))
                      go_big_quiet_want; go_big_quiet_op; refine ⟨_, HD.out _, ?_⟩; go_big_quiet_on; (repeat (go_big_quiet_step (fail)))
                      (repeat (go_big_quiet_step (fail))); refine wpQuiet_end ?_
                      go_wp2
                      go_roundw
                      case rel => exact ⟨j + 1, _, by go_num, rfl, hchy.drew, fun h => by omega, fun d' hd' => by (have e := hd'.symm.trans Hd.out; cases e; omega), by rw [Hd.out]; exact HPS.out⟩
                      case measure => simp [intOf, Hd.out]; omega
                    | false =>
                      have hjz' : ¬ j = 0 := by simpa using hjz
                      by_cases hll : max (p - r) (r - p) + on < least
                      · rw [if_pos (.inr hll)] at HPS
                        clear hjz'
                        go_wp2_with fail
                        refine wp_region_quiet_all (by kernel_rfl) (by kernel_rfl) ?_; (repeat (go_big_quiet_step (fail)))
                        go_big_quiet_want; go_big_quiet_op; refine ⟨_, HD.out _, ?_⟩; go_big_quiet_on; (repeat (go_big_quiet_step (fail)))
                        (repeat (go_big_quiet_step (fail))); refine wpQuiet_end ?_
                        go_wp2
                        go_roundw
                        case rel => exact ⟨j + 1, _, by go_num, rfl, hchy.drew, fun h => by omega, fun d' hd' => by (have e := hd'.symm.trans Hd.out; cases e; omega), by rw [Hd.out]; exact HPS.out⟩
                        case measure => simp [intOf, Hd.out]; omega
                      · rw [if_neg (fun h => h.elim hjz' hll)] at HPS
                        clear hjz'
                        go_wp2_with fail
                        refine wp_region_quiet_all (by kernel_rfl) (by kernel_rfl) ?_; (repeat (go_big_quiet_step (fail)))
                        go_big_quiet_want; go_big_quiet_op; refine ⟨_, HD.out _, ?_⟩; go_big_quiet_on; (repeat (go_big_quiet_step (fail)))
                        (repeat (go_big_quiet_step (fail))); refine wpQuiet_end ?_
                        go_wp2
                        go_roundw
                        case rel => exact ⟨j + 1, _, by go_num, rfl, hchy.drew, fun h => by omega, fun d' hd' => by (have e := hd'.symm.trans Hd.out; cases e; omega), by rw [Hd.out]; exact HPS.out⟩
                        case measure => simp [intOf, Hd.out]; omega
                  · have hjd : j = (reachL d).length := by omega
                    have hlf : least = lenF (cs.drop (m + 1)) p := by
                      rw [List.drop_eq_getElem_cons hn]
                      have hce : cs[m + 1] = d := by have := Hd.out; rw [List.getElem?_eq_getElem hn] at this; exact Option.some.inj this
                      rw [hce]
                      obtain ⟨d0, d1⟩ := Hcv.out (m + 1) d hn Hd.out
                      have hpos : 0 < (reachL d).length := List.length_pos_iff.2 (reachL_ne d d0 d1)
                      rcases hpart with ⟨h, _⟩ | ⟨_, h⟩
                      · omega
                      · rw [h, hjd, List.take_of_length_le (Nat.le_refl _)]; rfl
                    have hI4 : ¬ (j : Int) < ((reachL d).length : Int) := by omega
                    have HLF := hid hlf
                    clear hlf hpart hjd
                    have hown7 := ownsRow_chg hown hchy (fun _ _ h => h)
                    have hgcm := hgly.cell m
                    rw [List.getElem?_set_self (by omega)] at hgcm
                    have hgfm := hgly.free m
                    have hwos := hchx.size
                    have hwys := hchy.size
                    have hmm : Mine wo.heap.size wy wy 3 v (((reachL c).take q).map fun p => Value.int .i64 (lenF (cs.drop (m + 1)) p)) := ⟨by simpa [Nat.min_eq_left hq] using hown7, Below.refl _ _, by omega⟩
                    have hqq : (((reachL c).take q).map fun p => Value.int .i64 (lenF (cs.drop (m + 1)) p)).length = q := by simp; omega
                    have hL1 : (((reachL c).take q).map fun p => Value.int .i64 (lenF (cs.drop (m + 1)) p)).length + 1 ≤ maxLen := by unfold maxLen; omega
                    have hL2 : ((((reachL c).take q).map fun p => Value.int .i64 (lenF (cs.drop (m + 1)) p)).length + 1) * 8 ≤ 140737488355328 := by omega
                    have hng : some gl ≠ v.ownBlock := fun e => by have := (hown.lt gl e.symm).1; omega
                    go_wp2_with (at_builtin; refine wpl_app1 rfl _ _ 22 rfl 3 _ _ Try.underlying22 Try.info3 rfl _ _ _ _ hmm rfl _ rfl rfl hL1 hL2 ?_; intro g1 cap1 w1 hm1 hg1 hB1 hat1; have hc1 := (hgly.grown hg1 hng).cell m; have hf1 := (hgly.grown hg1 hng).free m; rw [List.getElem?_set_self (by omega)] at hc1)
                    go_roundw
                    case rel =>
                      refine ⟨q + 1, _, by go_num, by omega, (((hchx.trans (hchy.mono (fun _ _ h => h.elim))).grown hg1 (fun x e => .inr (hown.lt x e).1)).set (.inl rfl) _), (by have h := (hgly.grown hg1 hng).set m (.slice (some ⟨g1, 0, none⟩) (q + 1) cap1); rw [List.set_set] at h; exact h), ?_⟩
                      have h := ownsRow_setCell_below hm1.own (a := ⟨gl, m, none⟩) (by show gl < wo.heap.size; omega) (.slice (some ⟨g1, 0, none⟩) (q + 1) cap1)
                      rw [take_snoc' _ q p Hp.out, List.map_append, List.map_cons, List.map_nil, ← HLF.out]
                      rw [List.length_append, hqq] at h
                      exact h
                    case measure => simp [intOf]; omega
                · have hmn : m + 1 = cs.length := by omega
                  obtain rfl := hj0 hmn
                  have hlf : least = lenF (cs.drop (m + 1)) p := by
                    rw [hmn, List.drop_length]
                    rcases hpart with ⟨_, h⟩ | ⟨h, _⟩
                    · rw [h]; rfl
                    · omega
                  have HLF := hid hlf
                  have hI3 : ¬ (m : Int) + 1 < (cs.length : Int) := by omega
                  clear hlf hpart hmn
                  have hown7 := ownsRow_chg hown hchy (fun _ _ h => h)
                  have hgcm := hgly.cell m
                  rw [List.getElem?_set_self (by omega)] at hgcm
                  have hgfm := hgly.free m
                  have hwos := hchx.size
                  have hwys := hchy.size
                  have hmm : Mine wo.heap.size wy wy 3 v (((reachL c).take q).map fun p => Value.int .i64 (lenF (cs.drop (m + 1)) p)) := ⟨by simpa [Nat.min_eq_left hq] using hown7, Below.refl _ _, by omega⟩
                  have hqq : (((reachL c).take q).map fun p => Value.int .i64 (lenF (cs.drop (m + 1)) p)).length = q := by simp; omega
                  have hL1 : (((reachL c).take q).map fun p => Value.int .i64 (lenF (cs.drop (m + 1)) p)).length + 1 ≤ maxLen := by unfold maxLen; omega
                  have hL2 : ((((reachL c).take q).map fun p => Value.int .i64 (lenF (cs.drop (m + 1)) p)).length + 1) * 8 ≤ 140737488355328 := by omega
                  have hng : some gl ≠ v.ownBlock := fun e => by have := (hown.lt gl e.symm).1; omega
                  go_wp2_with (at_builtin; refine wpl_app1 rfl _ _ 22 rfl 3 _ _ Try.underlying22 Try.info3 rfl _ _ _ _ hmm rfl _ rfl rfl hL1 hL2 ?_; intro g1 cap1 w1 hm1 hg1 hB1 hat1; have hc1 := (hgly.grown hg1 hng).cell m; have hf1 := (hgly.grown hg1 hng).free m; rw [List.getElem?_set_self (by omega)] at hc1)
                  go_roundw
                  case rel =>
                    refine ⟨q + 1, _, by go_num, by omega, (((hchx.trans (hchy.mono (fun _ _ h => h.elim))).grown hg1 (fun x e => .inr (hown.lt x e).1)).set (.inl rfl) _), (by have h := (hgly.grown hg1 hng).set m (.slice (some ⟨g1, 0, none⟩) (q + 1) cap1); rw [List.set_set] at h; exact h), ?_⟩
                    have h := ownsRow_setCell_below hm1.own (a := ⟨gl, m, none⟩) (by show gl < wo.heap.size; omega) (.slice (some ⟨g1, 0, none⟩) (q + 1) cap1)
                    rw [take_snoc' _ q p Hp.out, List.map_append, List.map_cons, List.map_nil, ← HLF.out]
                    rw [List.length_append, hqq] at h
                    exact h
                  case measure => simp [intOf]; omega
            · have hql : q = (reachL c).length := by omega
              have hI2 : ¬ (q : Int) < ((reachL c).length : Int) := by omega
              go_wp2
              go_roundw
              case rel =>
                refine ⟨m, (m : Int) - 1, L.set m v, rfl, by go_num, by omega, hch.trans (hchx.mono fun x hx h => h.elim .inl (fun h => .inr (by omega))), hglx, by simpa using hLl, fun j hj => ?_, fun j d hj hd => ?_⟩
                · rw [List.getElem?_set_ne (by omega)]; exact HL.out.1 j (by omega)
                · by_cases e : j = m
                  · subst e
                    obtain rfl : d = c := Option.some.inj (hd.symm.trans Hc.out)
                    refine ⟨v, by rw [List.getElem?_set_self (by omega)], ?_⟩
                    rw [hql, List.take_of_length_le (Nat.le_refl _)] at hown
                    have hmx : Mine wo.heap.size wx wx 3 v (((reachL d).map (lenF (cs.drop (j + 1)))).map (Value.int .i64)) := ⟨by simpa [Function.comp_def] using hown, Below.refl _ _, hchx.size⟩
                    exact (hmx.rowIn (by simpa using hne)).keep (fun x hx _ => ⟨rfl, by omega⟩)
                  · obtain ⟨u, h1, h2⟩ := HL.out.2 j d (by omega) hd
                    exact ⟨u, by rw [List.getElem?_set_ne (by omega)]; exact h1, h2.keep (fun x hx hx2 => ⟨hchx.block x hx2 (HS.out x hx2 (by omega)), hx⟩)⟩
              case measure => simp [intOf] <;> omega

set_option maxHeartbeats 400000 in
set_option maxRecDepth 100000 in
theorem rplan_bad (at0 : Int) (ao : Option Addr) (cap : Nat) (cs : List Int) (w : World) (h : isB at0 = false ∨ 40 < cs.length) :
    Calls Try.prog 14 #[.int .i64 at0, .slice ao cs.length cap] w fun e w' => e = .returned (.tuple #[.slice none 0 0, .int .i64 0, .int .i64 1]) ∧ Below w.heap.size w w' := by
  cases hi : isB at0 with
  | false =>
    go_enter Try.func14, Try.ntmps14
    go_wp2_with (first | (go_at_call 23; refine (ris_any _ _).mono ?_; rintro e w' ⟨rfl, rfl⟩))
    go_ret3
    exact ⟨rfl, Below.refl _ _⟩
  | true =>
    have hl : 40 < cs.length := by rcases h with h | h; rw [hi] at h; cases h; exact h
    have hl2 : (40 : Int) < (cs.length : Int) := by omega
    go_enter Try.func14, Try.ntmps14
    go_wp2_with (first | (go_at_call 23; refine (ris_any _ _).mono ?_; rintro e w' ⟨rfl, rfl⟩))
    go_ret3
    exact ⟨rfl, Below.refl _ _⟩

theorem rplan_any (at0 : Int) (ao : Option Addr) (cap : Nat) (cs : List Int) (w : World) (hcs : SlI w ao cs) :
    Calls Try.prog 14 #[.int .i64 at0, .slice ao cs.length cap] w (PlanPost at0 cs w) := by
  by_cases h : isB at0 = true ∧ cs.length ≤ 40
  · exact rplan_good at0 ao cap cs w h.1 h.2 hcs
  · refine (rplan_bad at0 ao cap cs w ?_).mono fun e w' hh => ⟨fun _ => hh, fun hk => ?_⟩
    · cases hi : isB at0 with
      | false => exact .inl rfl
      | true => right; have : ¬ cs.length ≤ 40 := fun h2 => h ⟨hi, h2⟩; omega
    · exfalso; apply h
      rw [planOk, Bool.and_eq_true, Bool.and_eq_true] at hk
      exact ⟨hk.1.1, by simpa using hk.1.2⟩
theorem rplan_yes (at0 : Int) (ao : Option Addr) (cap : Nat) (cs : List Int) (w : World) (hcs : SlI w ao cs) (hk : planOk at0 cs = true) :
    Calls Try.prog 14 #[.int .i64 at0, .slice ao cs.length cap] w fun e w' => ∃ ao' cap', e = .returned (.tuple #[.slice ao' cs.length cap', .int .i64 (lenF cs at0), .int .i64 0]) ∧ SlI w' ao' (planL at0 cs) ∧ Below w.heap.size w w' := by
  refine (rplan_any at0 ao cap cs w hcs).mono fun e w' h => ?_
  obtain ⟨v, he, hm⟩ := h.2 hk
  obtain ⟨ao', cap', hv, hs⟩ := hm.sl
  obtain ⟨h1, h2, h3⟩ := (planOk_iff _ _).1 hk
  rw [planL_len cs at0 h1 h3 (by omega)] at hv
  exact ⟨ao', cap', by rw [he, hv], hs, hm.below⟩
theorem rplan_not (at0 : Int) (ao : Option Addr) (cap : Nat) (cs : List Int) (w : World) (hcs : SlI w ao cs) (hk : planOk at0 cs = false) :
    Calls Try.prog 14 #[.int .i64 at0, .slice ao cs.length cap] w fun e w' => e = .returned (.tuple #[.slice none 0 0, .int .i64 0, .int .i64 1]) ∧ Below w.heap.size w w' :=
  (rplan_any at0 ao cap cs w hcs).mono fun _ _ h => h.1 hk
end Go.Proofs.Ytiimngmkndfegaa
