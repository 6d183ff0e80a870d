import Derived.Test.YtgelhndjdngdnaaAirEnd
import Derived.Laws.EntriesVeiled
namespace Go.Proofs.Ytgelhndjdngdnaa
open Go.RowKit Go.Shelf
attribute [local go_sem] Oper.semAt_some

def winStep (least : Int) (st : Int × List (Int × Int)) (x : Slot) : Int × List (Int × Int) :=
  if x.1.2 < least then endF x.1.1 st else if st.1 < 0 then (x.1.1, st.2) else st
def winSt (least : Int) (xs : List Slot) : Int × List (Int × Int) := xs.foldl (winStep least) (-1, [])
def winF (least : Int) (xs : List Slot) : List (Int × Int) := (endF 96 (winSt least xs)).2
theorem winSt_snoc (least : Int) (xs : List Slot) (x : Slot) : winSt least (xs ++ [x]) = winStep least (winSt least xs) x := by simp [winSt]
theorem endF_len (k : Int) (st : Int × List (Int × Int)) : (endF k st).2.length ≤ st.2.length + 1 := by unfold endF; dsimp only; split <;> simp
theorem winStep_len (least : Int) (st : Int × List (Int × Int)) (x : Slot) : (winStep least st x).2.length ≤ st.2.length + 1 := by
  unfold winStep; split
  · exact endF_len _ _
  · split <;> simp

theorem blk_turn {W W' : World} {row : Option Nat} {b : Nat} {T : TypeId} {L : List Value} (h : Blk W b T L) (hg : W.grownBy W' row) (hr : ∀ r, row = some r → ∃ o : Obj, W.heap[r]? = some o ∧ o.isCells = false) : Blk W' b T L :=
  h.grown hg (fun e => by obtain ⟨o, ho, hc⟩ := hr b e.symm; rw [show W.heap[b]? = _ from h] at ho; cases ho; cases hc)
theorem row_turn {W W' : World} {row : Option Nat} {B sz n : Nat} {E : TypeId} {v : Value} {xs : List Value} (h : W.ownsRow B E sz v n xs) (hg : W.grownBy W' row) (hr : ∀ r, row = some r → ∃ o : Obj, W.heap[r]? = some o ∧ o.isCells = false) : W'.ownsRow B E sz v n xs := by
  obtain ⟨h1, h2⟩ := h
  refine ⟨h1, ?_⟩
  rcases h2 with h2 | ⟨g, cap, cur, hv, hle, hh, r⟩
  · exact .inl h2
  · refine .inr ⟨g, cap, cur, hv, hle, (hg.block g (Array.getElem?_eq_some_iff.1 hh).1 (fun e => ?_)).trans hh, r⟩
    obtain ⟨o, ho, hc⟩ := hr g e.symm
    rw [hh] at ho; cases ho; cases hc

theorem keeps_of_chg {S : Nat → Prop} {W W' : World} (h : Chg S W W') (hs : ∀ k, S k → ∃ o : Obj, W.heap[k]? = some o ∧ o.isCells = true) : KeepsOthers W W' :=
  ⟨h.size, fun k o hk ho => (h.block k (Array.getElem?_eq_some_iff.1 hk).1 (fun s => by obtain ⟨o', h', c'⟩ := hs k s; rw [hk] at h'; cases h'; rw [ho] at c'; cases c')).trans hk⟩
theorem blk_isCells {w : World} {b : Nat} {T : TypeId} {L : List Value} (h : Blk w b T L) : ∃ o : Obj, w.heap[b]? = some o ∧ o.isCells = true := ⟨_, h, rfl⟩
theorem row_isCells {w : World} {B sz n : Nat} {E : TypeId} {v : Value} {xs : List Value} (h : w.ownsRow B E sz v n xs) {k : Nat} (hk : v.ownBlock = some k) : ∃ o : Obj, w.heap[k]? = some o ∧ o.isCells = true := by
  rcases h.2 with ⟨e, _⟩ | ⟨g, cap, cur, hv, _, hh, _⟩
  · rw [e] at hk; cases hk
  · rw [hv] at hk; simp only [Value.ownBlock, Option.some.injEq] at hk; subst hk; exact ⟨_, hh, rfl⟩

/-- between two rounds -/
def WinI (least : Int) (w : World) (S5 B1 B2 B3 : Nat) (pre : List Slot) (W : World) : Prop :=
  ∃ v, Blk W w.heap.size 3 [.int .i64 least] ∧ Blk W B1 28 [v] ∧ Blk W B2 3 [.int .i64 (winSt least pre).1] ∧
    Blk W B3 43 [.func (.func 32) #[] #[.pointer (some ⟨B2, 0, none⟩), .pointer (some ⟨B1, 0, none⟩)]] ∧
    W.ownsRow S5 39 2 v (winSt least pre).2.length (spanCells (winSt least pre).2) ∧ (winSt least pre).2.length ≤ pre.length ∧ Below w.heap.size w W ∧ S5 ≤ W.heap.size

set_option maxHeartbeats 2000000 in
set_option maxRecDepth 100000 in
theorem windows_yes (s t nn least : Int) (w : World) (hex : 0 ≤ s ∧ s < 16 ∧ 0 ≤ t ∧ t < 512) (hn : 0 ≤ nn ∧ nn < 400) :
    Calls Try.prog 17 #[.int .i64 s, .int .i64 t, .int .i64 nn, .int .i64 least] w fun e w' => ∃ v, e = .returned (.tuple #[v, .int .i64 0]) ∧
      w'.ownsRow w.heap.size 39 2 v (winF least (slotsL s t nn)).length (spanCells (winF least (slotsL s t nn))) ∧ Below w.heap.size w w' := by
  have hmk : ∀ (fn : Fn) (first cap : Array Value) (w : World), (Instr.makeFunc fn first cap).run Try.prog w = .ok (.func fn first cap) w := fun _ _ _ _ => rfl
  have HE := hid (fun w => (callsIn_wide (n := 7)).2 (exists_yes s t w hex))
  have HSL := hid (fun w => (callsIn_wide (n := 7)).2 (slots_any s t nn w))
  have Hex := hid hex
  have Hn := hid hn
  obtain ⟨n0, n1⟩ := hn
  have n2 : ¬ nn < 0 := by omega
  have n3 : ¬ 400 ≤ nn := by omega
  clear hex
  refine (callsIn_wide (n := 8)).1 ?_
  refine callsIn_of_wp_marks Try.func17 rfl trivial ?_ rfl
  simp only [Try.ntmps17, List.size_toArray, List.length_cons, List.length_nil, Nat.reduceAdd, Nat.reduceSub, Array.replicate_succ, Array.replicate_zero, List.push_toArray, List.append_toArray, List.nil_append, List.cons_append]
  gi_wp2_with (first | (refine ⟨trivial, ?_⟩; gi_at_call 28; refine (HE.out _).mono ?_; rintro e w' ⟨rfl, rfl⟩))
  obtain ⟨X, hX⟩ : ∃ X : World, X = (((w.alloc (.cells #[.int .i64 least] 3)).alloc (.cells #[.slice none 0 0] 28)).alloc (.cells #[.int .i64 (-1)] 3)).alloc (.cells #[.func (.func 32) #[] #[.pointer (some ⟨w.heap.size + 1 + 1, 0, none⟩), .pointer (some ⟨w.heap.size + 1, 0, none⟩)]] 43) := ⟨_, rfl⟩
  have b0 : Blk X w.heap.size 3 [.int .i64 least] := by rw [hX]; exact (((Blk.new w _ _).alloc _).alloc _).alloc _
  have b1 : Blk X (w.heap.size + 1) 28 [.slice none 0 0] := by
    rw [hX]; have := Blk.new (w.alloc (.cells #[.int .i64 least] 3)) #[.slice none 0 0] 28; rw [World.size_alloc] at this; exact (this.alloc _).alloc _
  have b2 : Blk X (w.heap.size + 1 + 1) 3 [.int .i64 (-1)] := by
    rw [hX]; have := Blk.new ((w.alloc (.cells #[.int .i64 least] 3)).alloc (.cells #[.slice none 0 0] 28)) #[.int .i64 (-1)] 3; simp only [World.size_alloc] at this; exact this.alloc _
  have b3 : Blk X (w.heap.size + 1 + 1 + 1) 43 [.func (.func 32) #[] #[.pointer (some ⟨w.heap.size + 1 + 1, 0, none⟩), .pointer (some ⟨w.heap.size + 1, 0, none⟩)]] := by
    rw [hX]; have := Blk.new (((w.alloc (.cells #[.int .i64 least] 3)).alloc (.cells #[.slice none 0 0] 28)).alloc (.cells #[.int .i64 (-1)] 3)) #[.func (.func 32) #[] #[.pointer (some ⟨w.heap.size + 1 + 1, 0, none⟩), .pointer (some ⟨w.heap.size + 1, 0, none⟩)]] 43; simp only [World.size_alloc] at this; exact this
  have hBX : Below w.heap.size w X := by rw [hX]; exact ((((Below.refl _ w).alloc (Nat.le_refl _) _).alloc (by simp) _).alloc (by simp <;> omega) _).alloc (by simp <;> omega) _
  refine ⟨trivial, ?_⟩
  rw [← hX]
  clear hX
  generalize hg1 : w.heap.size + 1 = B1 at *
  generalize hg2 : B1 + 1 = B2 at *
  generalize hg3 : B2 + 1 = B3 at *
  have HB := hid (show B1 = w.heap.size + 1 ∧ B2 = B1 + 1 ∧ B3 = B2 + 1 from ⟨hg1.symm, hg2.symm, hg3.symm⟩)
  clear hg1 hg2 hg3
  refine (HSL.out _).mono ?_
  rintro e w5 ⟨gn, gs, gt, rfl, h1, h2, h3, hbn, hbs, hbt, hB5⟩
  have l3 := b3.lt
  have c0 := b0.below hB5 b0.lt
  have c1 := b1.below hB5 b1.lt
  have c2 := b2.below hB5 b2.lt
  have c3 := b3.below hB5 b3.lt
  have hBw : Below w.heap.size w w5 := hBX.trans (hB5.mono hBX.size)
  have HS5 := hid hB5.size
  clear b0 b1 b2 b3 hBX hB5
  gi_wp2
  refine wpIn_rangeFunc_ownF rfl (by omega) (gf := 35) (lb := #[.pointer (some ⟨gn, 0, none⟩), .pointer (some ⟨gs, 0, none⟩), .pointer (some ⟨gt, 0, none⟩)]) rfl trivial (enters_of Try.func35 (by kernel_rfl) rfl)
    (slots1_stops s t nn Hex.out Hn.out gn gs gt w5 7 (by omega) hbn hbs hbt) Keep3.t ?hKb (Below.refl _ _) (fun _ => rfl) (WinI least w w5.heap.size B1 B2 B3) (fun _ _ _ => False) ?hI (fun _ _ _ _ _ hs _ _ => hs) ?h0
    (fun x => { tmps := #[.int .i64 s, .int .i64 t, .int .i64 nn, .int .i64 least, undef, undef, undef, .pointer (some ⟨w.heap.size, 0, none⟩), .slice none 0 0, .int .i64 0, .pointer (some ⟨B1, 0, none⟩), .pointer (some ⟨B2, 0, none⟩), .pointer (some ⟨B3, 0, none⟩), .int .i64 x.1.1, .int .i64 x.1.2,
      .int .i64 s, .int .i64 t, .bool true, .bool false, .bool false, .int .i64 nn, .bool (decide (nn < 0)), .bool (decide (nn < 0)), .bool (decide (nn < 0)), .int .i64 nn, .bool (decide (400 ≤ nn)), .bool (decide (nn < 0) || decide (400 ≤ nn)),
      .func (.func 32) #[] #[.pointer (some ⟨B2, 0, none⟩), .pointer (some ⟨B1, 0, none⟩)], .int .i64 s, .int .i64 t, .int .i64 nn,
      .func (.func 35) #[] #[.pointer (some ⟨gn, 0, none⟩), .pointer (some ⟨gs, 0, none⟩), .pointer (some ⟨gt, 0, none⟩)], .int .i64 x.1.1, .int .i64 x.1.2, undef, undef, undef, undef, undef, undef, undef, undef, undef, undef, undef, undef, undef, undef], defers := [] }) ?assign ?body ?done ?stop
  case hKb =>
    intro W l o o' hl _ _ _
    have e1 := hbn.lt
    have e2 := hbs.lt
    have e3 := hbt.lt
    exact ⟨World.putObj_heap_other (by omega), World.putObj_heap_other (by omega), World.putObj_heap_other (by omega)⟩
  case hI =>
    rintro pre W W' row ⟨v, i0, i1, i2, i3, i4, i5, i6, i7⟩ hg hr
    have hr' : ∀ r, row = some r → ∃ o : Obj, W.heap[r]? = some o ∧ o.isCells = false := fun r e => (hr r e).2
    exact ⟨v, blk_turn i0 hg hr', blk_turn i1 hg hr', blk_turn i2 hg hr', blk_turn i3 hg hr', row_turn i4 hg hr', i5, i6.grown hg i6.size (fun k e => by have := (hr k e).1; have := hBw.size; omega), Nat.le_trans i7 hg.size⟩
  case h0 => exact ⟨_, c0, c1, c2, c3, World.ownsRow_nil _ _ _ _, by simp [winSt], hBw, Nat.le_refl _⟩
  case assign =>
    intro l x W K hK
    gi_wp2
    exact hK
  case body =>
    rintro l pre x W ⟨v, i0, i1, i2, i3, i4, i5, i6, i7⟩ hlen
    have HW := hid (winSt_snoc least pre x)
    have HLN := hid (winStep_len least (winSt least pre) x)
    obtain ⟨⟨sl, h⟩, x0, x1⟩ := x
    obtain ⟨f, hf⟩ : ∃ f, (winSt least pre).1 = f := ⟨_, rfl⟩
    obtain ⟨out, ho⟩ : ∃ out, (winSt least pre).2 = out := ⟨_, rfl⟩
    rw [hf] at i2
    rw [ho] at i4 i5
    have HF := hid hf
    have HO := hid ho
    clear hf ho
    dsimp only at x0 x1
    have k0 := i0.cell 0
    have k2 := i2.cell 0
    have k2f := i2.free 0
    have k3 := i3.cell 0
    have q1 : w.heap.size < B1 := by have := HB.out; omega
    have q2 : B1 < B2 := by have := HB.out; omega
    have q3 : B2 < B3 := by have := HB.out; omega
    have hs5 := HS5.out
    have hne1 : some B2 ≠ v.ownBlock := fun e => by have := (i4.lt B2 e.symm).1; omega
    have hgn : ∀ k, v.ownBlock = some k → w5.heap.size ≤ k ∧ k < W.heap.size := fun k e => i4.lt k e
    have e1 := hbn.lt
    have e2 := hbs.lt
    have e3 := hbt.lt
    have hXn : B3 < gn ∧ B3 < gs ∧ B3 < gt := ⟨by omega, by omega, by omega⟩
    have HG := hid hgn
    clear hgn
    by_cases hh : h < least
    · have hend := CallsIn.inRound l ((callsIn_wide (n := 5)).2 (end_any sl f B2 B1 w5.heap.size v out W i2 i1 (by omega) (by omega) (by omega) i7 i4 (by omega) (by omega) (by omega)))
      have HEN := hid hend
      clear hend
      gi_wp2_with (refine ⟨trivial, ?_⟩; gi_at_call 32; refine HEN.out.mono ?_; rintro e W' ⟨rfl, v', j2, j1, jr, jc⟩)
      have hst : winSt least (pre ++ [⟨(sl, h), x0, x1⟩]) = endF sl (f, out) := by
        rw [HW.out]; unfold winStep; rw [if_pos hh]; rw [← HF.out, ← HO.out]
      have hS : ∀ k, (k = B2 ∨ k = B1 ∨ v.ownBlock = some k) → ∃ o : Obj, W.heap[k]? = some o ∧ o.isCells = true := by
        rintro k (rfl | rfl | hk)
        · exact blk_isCells i2
        · exact blk_isCells i1
        · exact row_isCells i4 hk
      have hSn : ∀ k, (k = B2 ∨ k = B1 ∨ v.ownBlock = some k) → k = B2 ∨ k = B1 ∨ w5.heap.size ≤ k := by
        rintro k (rfl | rfl | hk)
        · exact .inl rfl
        · exact .inr (.inl rfl)
        · exact .inr (.inr (HG.out k hk).1)
      obtain ⟨y1, y2, y3⟩ := hXn
      refine ⟨keeps_of_chg jc hS, ⟨jc.block gn (by omega) (fun h => by have := hSn _ h; omega), jc.block gs (by omega) (fun h => by have := hSn _ h; omega), jc.block gt (by omega) (fun h => by have := hSn _ h; omega)⟩,
        v', i0.chg jc (fun h => by have := hSn _ h; omega), j1, by rw [hst]; exact j2, i3.chg jc (fun h => by have := hSn _ h; omega), by rw [hst]; exact jr, ?_,
        i6.trans ((jc.mono (S' := fun k => B1 ≤ k) (fun k _ h => by have := hSn k h; omega)).toBelow (by have := i6.size; omega) (fun k h => by omega)), Nat.le_trans i7 jc.size⟩
      rw [hst]
      have hel := endF_len sl (f, out)
      dsimp only at hel
      simp only [List.length_append, List.length_cons, List.length_nil]
      omega
    · obtain ⟨y1, y2, y3⟩ := hXn
      by_cases hf : f < 0
      · have hst : winSt least (pre ++ [⟨(sl, h), x0, x1⟩]) = (sl, out) := by
          rw [HW.out]; unfold winStep; rw [if_neg hh, HF.out, if_pos hf, HO.out]
        gi_wp2
        have jc : Chg (fun k => k = B2) W (W.setCell ⟨B2, 0, none⟩ (.int .i64 sl)) := Chg.set (S := fun k => k = B2) (Chg.refl _ W) rfl _
        refine ⟨keeps_of_chg jc (fun k e => by subst e; exact blk_isCells i2), ⟨jc.block gn (by omega) (by omega), jc.block gs (by omega) (by omega), jc.block gt (by omega) (by omega)⟩,
          v, i0.chg jc (by omega), i1.chg jc (by omega), by rw [hst]; exact i2.set 0 _, i3.chg jc (by omega), by rw [hst]; exact ownsRow_chgN i4 jc (fun k hk e => by have := (HG.out k hk).1; omega), ?_,
          i6.trans ((jc.mono (S' := fun k => B1 ≤ k) (fun k _ h => by omega)).toBelow (by have := i6.size; omega) (fun k h => by omega)), Nat.le_trans i7 jc.size⟩
        rw [hst]
        simp only [List.length_append, List.length_cons, List.length_nil]
        omega
      · have hst : winSt least (pre ++ [⟨(sl, h), x0, x1⟩]) = (f, out) := by
          rw [HW.out]; unfold winStep; rw [if_neg hh, HF.out, if_neg hf, ← HF.out, ← HO.out]
        gi_wp2
        refine ⟨KeepsOthers.refl _, ⟨rfl, rfl, rfl⟩, v, i0, i1, by rw [hst]; exact i2, i3, by rw [hst]; exact i4, ?_, i6, i7⟩
        rw [hst]
        simp only [List.length_append, List.length_cons, List.length_nil]
        omega
  case done =>
    rintro D xs W hD rfl ⟨v, i0, i1, i2, i3, i4, i5, i6, i7⟩ hK
    obtain ⟨f, hf⟩ : ∃ f, (winSt least (slotsL s t nn)).1 = f := ⟨_, rfl⟩
    obtain ⟨out, ho⟩ : ∃ out, (winSt least (slotsL s t nn)).2 = out := ⟨_, rfl⟩
    rw [hf] at i2
    rw [ho] at i4 i5
    have hwf : winF least (slotsL s t nn) = (endF 96 (f, out)).2 := by unfold winF; rw [← hf, ← ho]
    have HWF := hid hwf
    clear hf ho hwf
    have hln : (slotsL s t nn).length = 96 := by simp [slotsL]
    have q1 : w.heap.size < B1 := by have := HB.out; omega
    have q2 : B1 < B2 := by have := HB.out; omega
    have q3 : B2 < B3 := by have := HB.out; omega
    have hs5 := HS5.out
    have k3 := i3.cell 0
    have hend := (callsIn_wide (n := 7)).2 (end_any 96 f B2 B1 w5.heap.size v out W i2 i1 (by omega) (by omega) (by omega) i7 i4 (by omega) (by omega) (by omega))
    have HEN := hid hend
    clear hend
    have hS : ∀ k, (k = B2 ∨ k = B1 ∨ v.ownBlock = some k) → ∃ o : Obj, W.heap[k]? = some o ∧ o.isCells = true := by
      rintro k (rfl | rfl | hk)
      · exact blk_isCells i2
      · exact blk_isCells i1
      · exact row_isCells i4 hk
    have hSn : ∀ k, (k = B2 ∨ k = B1 ∨ v.ownBlock = some k) → B1 ≤ k := by
      rintro k (rfl | rfl | hk)
      · omega
      · omega
      · have := (i4.lt k hk).1; omega
    have HS := hid hS
    have HSN := hid hSn
    clear hS hSn
    gi_wp2_with (refine ⟨trivial, ?_⟩; gi_at_call 32; refine HEN.out.mono ?_; rintro e W' ⟨rfl, v', j2, j1, jr, jc⟩; have k1 := j1.cell 0)
    have hK' := (keeps_of_chg jc HS.out).same D _ hK rfl
    have hD' : w5.heap.size ≤ D := hD
    refine ⟨by simp, .inl ⟨_, _, rfl, run_takeDeferred hK', ?_⟩⟩
    rw [HWF.out]
    refine ⟨_, results_tmp2 rfl _ _ _, v', rfl, ?_, ?_⟩
    · exact ownsRow_monoN (row_turn jr (grownBy_putObj' _ D _) (fun r e => by cases e; exact ⟨_, hK', rfl⟩)) hBw.size
    · exact (i6.trans ((jc.mono (S' := fun k => B1 ≤ k) (fun k _ h => HSN.out k h)).toBelow (by have := i6.size; omega) (fun k h => by omega))).trans (belowK_b (w := w) (Nat.le_refl _) W' D _ _ (by have := hBw.size; omega) hK' rfl rfl)
  case stop =>
    rintro D c pre W _ _ h _
    exact h.elim
end Go.Proofs.Ytgelhndjdngdnaa
