/- RetractFurther: the walk -/
import Derived.Test.YtgkgpfennlkcnaaDoorRetFur
import Derived.Test.YtgkgpfennlkcnaaDoorRetAny2
import Derived.Test.YtgkgpfennlkcnaaDoorLibN3
namespace Go.Proofs.YtgkgpfennlkcnaaDoor
open Go.RowKit

theorem MineN.alloc {sz B n : Nat} {w0 w : World} {E : TypeId} {v : Value} {xs : List Value} (h : MineN sz B w0 w E v n xs) (o : Obj) : MineN sz B w0 (w.alloc o) E v n xs :=
  ⟨h.own.alloc o, h.below.alloc h.base o, by have := h.base; rw [World.size_alloc]; omega⟩
theorem ent_one (e : Ent) : ∀ u ∈ e.cells, u.oneCell' = true := by
  intro u hu
  unfold Ent.cells at hu
  simp at hu
  rcases hu with rfl | rfl <;> rfl
theorem ents_one (L : List Ent) : ∀ u ∈ entsCells L, u.oneCell' = true := by
  intro u hu
  unfold entsCells at hu
  obtain ⟨e, _, h⟩ := List.mem_flatMap.1 hu
  exact ent_one e u h
/-- append(s, x...) in a region that draws: x any slice that can be read -/
theorem step_appsN {P : Program} {ops : Array Oper} {o : Oper} {a : Act} {w : World} {K : Act → World → Prop} {Q : Exit → Act → World → Prop} {G : Prop} (hgd : o.guard = none) (s x : Operand) (T : TypeId)
    (ho : o.op = .call { callee := .builtin .append, args := #[s, x], argTypes := #[T, T] })
    (E : TypeId) (i : TypeInfo) (z : Value) (sz bytes : Nat) (ht : P.underlying T = some (.slice E)) (hi : P.info? E = some i) (hz : i.zero = some z) (hsize : i.size = sz) (hby : i.bytes = bytes) (hzs : z.cells.size = sz) (hsz : 0 < sz)
    (B : Nat) (v : Value) (n : Nat) (xs : List Value) (hs : a.eval s = v) (hown : w.ownsRow B E sz v n xs) (ao : Option Addr) (c m : Nat) (vs : List Value) (hvl : vs.length = m * sz) (hv : SlV w ao vs) (hnone : ao = none → c = 0) (h1 : ∀ u ∈ vs, u.oneCell' = true)
    (hx : a.eval x = .slice ao m c) (k : Nat) (hk : n + m = k) (hlen : k ≤ maxLen) (hbytes : k * bytes ≤ 140737488355328) (hbase : B ≤ w.heap.size)
    (h : ∀ ao' cap' w', w'.ownsRow B E sz (.slice ao' k cap') k (xs ++ vs) → w.grownBy w' v.ownBlock → K (a.put o.dst (.slice ao' k cap')) w') :
    if Region.wanted o (yielded ops a.tmps) = true then Oper.wp P o a w K Q else G := by
  have hw : Region.wanted o (yielded ops a.tmps) = true := by simp [Region.wanted, hgd]
  rw [if_pos hw]
  subst hk
  have hshape : ∀ {v : Value} {n : Nat} {xs : List Value} {w : World}, w.ownsRow B E sz v n xs → ∃ ao cap, v = .slice ao n cap := by
    intro v n xs w h
    rcases h.2 with ⟨e, h3⟩ | ⟨g, cap, cur, hv, hg, _⟩
    · exact ⟨none, 0, by rw [e, h3]⟩
    · exact ⟨_, cap, hv⟩
  cases ao with
  | none =>
    have hvs : vs = [] := by
      cases vs with
      | nil => rfl
      | cons u vs => obtain ⟨_, _, e, _⟩ := hv.cell 0 u rfl; cases e
    subst hvs
    have hm0 : m = 0 := by
      have : m * sz = 0 := by simpa using hvl.symm
      rcases Nat.mul_eq_zero.1 this with h | h
      · exact h
      · omega
    subst hm0
    have hc := hnone rfl
    subst hc
    have hrun := run_append_owned_none (P := P) w B T o.type E i sz ht hi _ n xs hown
    unfold Oper.wp
    simp only [execOp, ho, resolve, invoke, builtin, Sem.run_bind, Sem.run_pure, Result.andThen_ok, List.map_toArray, List.map_cons, List.map_nil, hs, hx, hrun]
    obtain ⟨ao', cap', e⟩ := hshape hown
    have hm2 := hown
    rw [e] at hm2
    have hk := h ao' cap' w (by simpa using hm2) (World.grownBy.refl _ _)
    rw [e]
    show K (a.put o.dst (.slice ao' (n + 0) cap')) w
    simpa using hk
  | some ad =>
    obtain ⟨v', w', hr, h2, h3, h4, h5⟩ := run_append_own_at (P := P) w B T o.type E i z sz bytes ht hi hz hsize hby hzs hsz v n xs hown ad m c vs hvl (fun j u hj => by
      obtain ⟨b, off, e, _, hcx⟩ := hv.cell j u hj
      obtain rfl := Option.some.inj e
      rw [addr_add]; exact hcx) h1 hlen hbytes hbase
    unfold Oper.wp execOp
    simp only [ho, resolve, invoke, builtin, Sem.run_bind, Sem.run_pure, Result.andThen_ok, List.map_toArray, List.map_cons, List.map_nil, hs, hx, hr]
    obtain ⟨ao', cap', e⟩ := hshape h2
    subst e
    exact h ao' cap' w' h2 h3
theorem SlV.drew {w : World} {ao : Option Addr} {l : List Value} (h : SlV w ao l) : SlV w.drew ao l := ⟨h.len, h.cell⟩
theorem supp_full {L : List Ent} {R : List ByteArray} (hj : judB L R = true) (hS : Small L) {ao ro : Option Addr} {cap rc : Nat} {w : World} (hE : Ents w ao L) (hRo : SlV w ro (strsV R)) :
    Calls Tryd.prog 10 #[.slice ao L.length cap, .slice ro R.length rc] w fun e w' => ∃ sb, e = .returned (.tuple #[.slice (some ⟨sb, 0, none⟩) L.length L.length, .int .i64 0]) ∧ SlV w' (some ⟨sb, 0, none⟩) (bools (supL L R)) ∧ Below w.heap.size w w' := by
  have HJ := hid (jud_yes ao ro cap rc L R w hE hS hRo hj)
  clear hj
  generalize L.length = n at *
  generalize R.length = m at *
  go_enter Tryd.func10, Tryd.ntmps10
  go_wp2_with fail
  refine HJ.out.mono ?_
  rintro e w1 ⟨gb, sb, rfl, _, hsb, hB⟩
  go_wp2_with fail
  go_ret2
  exact ⟨sb, rfl, hsb, hB⟩
theorem supp_none {L : List Ent} {R : List ByteArray} (hj : judB L R = false) (hS : Small L) {ao ro : Option Addr} {cap rc : Nat} {w : World} (hE : Ents w ao L) (hRo : SlV w ro (strsV R)) (hl : R.length ≤ 100000) :
    Calls Tryd.prog 10 #[.slice ao L.length cap, .slice ro R.length rc] w fun e w' => ∃ bo cb, e = .returned (.tuple #[.slice bo 0 cb, .int .i64 1]) ∧ Below w.heap.size w w' := by
  have := supp_any ao ro cap rc L R w hE hS hRo hl
  unfold supR at this
  rw [if_neg (by rw [hj]; simp)] at this
  exact this.mono fun e w' ⟨bo, cb, h1, h2, h3⟩ => ⟨bo, cb, h1, h3⟩
theorem EntWf.below {w w' : World} {e : Ent} (h : EntWf w e) (hB : Below w.heap.size w w') : EntWf w' e := ⟨⟨h.cs.hlen, h.cs.slv.below hB, h.cs.hcap, h.cs.hmax, h.cs.hnil, h.cs.size⟩, h.size⟩
theorem ent_world (w : World) (e : Ent) : ∃ w', w.alloc (.cells #[.string e.id, .slice e.ao e.cs.length e.cap] 31) = w' ∧ Blk w' w.heap.size 31 e.cells ∧ Below w.heap.size w w' := ⟨_, rfl, Blk.new _ _ _, below_alloc _ _⟩
set_option maxHeartbeats 4000000 in
set_option maxRecDepth 100000 in
theorem fur_walk (ao ro : Option Addr) (cap rc : Nat) (L : List Ent) (f : Ent) (R : List ByteArray) (w : World) (hE : Ents w ao L) (hlm : (L.length + 1) * 40 ≤ 140737488355328) (hf : EntWf w f) (hR : SlV w ro (strsV R)) (hna : ao = none → cap = 0) :
    Calls Tryd.prog 7 #[.slice ao L.length cap, f.v, .slice ro R.length rc] w fun e w' => e = .returned (.bool true) ∧ Below w.heap.size w w' := by
  have hf0 := hf
  obtain ⟨fid, fao, fcs, fcap⟩ := f
  simp only [Ent.v]
  generalize hln : L.length = n at *
  have HLN := hid hln
  clear hln
  go_enter Tryd.func7, Tryd.ntmps7
  go_wp2_with fail
  obtain ⟨w3, hw3, hx, hB⟩ := ent_world w ⟨fid, fao, fcs, fcap⟩
  rw [hw3]
  clear hw3
  refine (head_any w3).mono ?_
  rintro e w4 ⟨rfl, hB1⟩
  replace hx := hx.below hB1 hx.lt
  replace hB := hB.trans (hB1.mono hB.size)
  clear hB1
  obtain ⟨xb, hxb⟩ : ∃ xb, w.heap.size = xb := ⟨_, rfl⟩
  rw [hxb] at hx ⊢
  have c0 : w4.cell? ⟨xb, 0, none⟩ = some (.string fid) := hx.cell 0
  have c1 : w4.cell? ⟨xb, 1, none⟩ = some (.slice fao fcs.length fcap) := hx.cell 1
  replace hE := hE.below hB
  replace hR := hR.below hB
  have hvl : (entsCells L).length = n * 2 := by rw [entsCells_len, HLN.out]; omega
  have hone := ents_one L
  have hfone : ∀ u ∈ [Value.string fid, .slice fao fcs.length fcap], u.oneCell' = true := ent_one ⟨fid, fao, fcs, fcap⟩
  have hm0 : MineN 2 w4.heap.size w4 (w4.alloc (.cells #[] 31)) 31 (.slice (some ⟨w4.heap.size, 0, none⟩) 0 0) 0 [] := MineN.empty (Below.refl _ _) (Nat.le_refl _)
  have hk1 : n ≤ maxLen := by unfold maxLen; omega
  have hk2 : n * 40 ≤ 140737488355328 := by omega
  have hk3 : n + 1 ≤ maxLen := by unfold maxLen; omega
  obtain ⟨i9, hi9, hz9, hs9, hb9⟩ := info_parts Tryd.inEnt
  obtain ⟨us, hus⟩ : ∃ us : Array Value, us = #[.string fid, .slice fao fcs.length fcap] := ⟨_, rfl⟩
  have c0a : (w4.alloc (.cells #[] 31)).cell? ⟨xb, 0, none⟩ = some (.string fid) := ((below_alloc w4 _).cell (p := ⟨xb, 0, none⟩) hx.lt).trans c0
  have c1a : (w4.alloc (.cells #[] 31)).cell? ⟨xb, 1, none⟩ = some (.slice fao fcs.length fcap) := ((below_alloc w4 _).cell (p := ⟨xb, 1, none⟩) hx.lt).trans c1
  have o1 : ((w4.alloc (.cells #[] 31)).drew).ownsRow w4.heap.size 31 2 (.slice (some ⟨w4.heap.size, 0, none⟩) 0 0) 0 [] := hm0.own
  have o2 : (((w4.alloc (.cells #[] 31)).alloc (.cells #[.string fid, .slice fao fcs.length fcap] 31)).drew).ownsRow w4.heap.size 31 2 (.slice (some ⟨w4.heap.size, 0, none⟩) 0 0) 0 [] := hm0.own.alloc _
  have o3 : (((w4.alloc (.cells #[.string fid, .slice fao fcs.length fcap] 31)).alloc (.cells #[] 31)).drew).ownsRow w4.heap.size 31 2 (.slice (some ⟨w4.heap.size + 1, 0, none⟩) 0 0) 0 [] := by
    have := (MineN.empty (sz := 2) (E := 31) (Below.refl w4.heap.size (w4.alloc (.cells #[.string fid, .slice fao fcs.length fcap] 31))) (by rw [World.size_alloc]; omega)).own
    rw [World.size_alloc] at this
    exact this
  have s1 : SlV ((w4.alloc (.cells #[] 31)).drew) ao (entsCells L) := (hE.row.below (below_alloc _ _)).drew
  have s2 : SlV (((w4.alloc (.cells #[] 31)).alloc (.cells #[.string fid, .slice fao fcs.length fcap] 31)).drew) ao (entsCells L) := ((hE.row.below (below_alloc _ _)).below (below_alloc _ _)).drew
  have s3 : SlV (((w4.alloc (.cells #[.string fid, .slice fao fcs.length fcap] 31)).alloc (.cells #[] 31)).drew) ao (entsCells L) := ((hE.row.below (below_alloc _ _)).below (below_alloc _ _)).drew
  clear hus
  have hxl := hx.lt
  have u2 : SlV (((w4.alloc (.cells #[] 31)).alloc (.cells #[.string fid, .slice fao fcs.length fcap] 31)).drew) (some ⟨w4.heap.size + 1, 0, none⟩) [.string fid, .slice fao fcs.length fcap] := by
    have := slv_made (w4.alloc (.cells #[] 31)) #[.string fid, .slice fao fcs.length fcap] 31 (by simp)
    rw [World.size_alloc] at this
    exact this.drew
  have u3 : SlV (((w4.alloc (.cells #[.string fid, .slice fao fcs.length fcap] 31)).alloc (.cells #[] 31)).drew) (some ⟨w4.heap.size, 0, none⟩) [.string fid, .slice fao fcs.length fcap] := ((slv_made w4 #[.string fid, .slice fao fcs.length fcap] 31 (by simp)).below (below_alloc _ _)).drew
  have n1 : some xb ≠ (Value.slice (some ⟨w4.heap.size, 0, none⟩) 0 0).ownBlock := by
    intro q
    have : xb = w4.heap.size := by simpa [Value.ownBlock] using q
    omega
  have n2 : ∀ b off, (some ⟨w4.heap.size + 1, 0, none⟩ : Option Addr) = some ⟨b, off, none⟩ → (Value.slice (some ⟨w4.heap.size, 0, none⟩) 0 0).ownBlock ≠ some b := by
    intro b off q k
    have k1 : w4.heap.size = b := by simpa [Value.ownBlock] using k
    have k2 : w4.heap.size + 1 = b := by cases q; rfl
    omega
  have n3 : ∀ b off, (some ⟨w4.heap.size, 0, none⟩ : Option Addr) = some ⟨b, off, none⟩ → (Value.slice (some ⟨w4.heap.size + 1, 0, none⟩) 0 0).ownBlock ≠ some b := by
    intro b off q k
    have k1 : w4.heap.size + 1 = b := by simpa [Value.ownBlock] using k
    have k2 : w4.heap.size = b := by cases q; rfl
    omega
  have hk4 : (n + 1) * 40 ≤ 140737488355328 := hlm
  go_upto_region 2 with fail
  go_region_law
    (first
      | (refine step_appsN (by rfl) (.tmp 19) (.tmp 20) 22 (by rfl) 31 i9 _ 2 40 Tryd.ulEnts hi9 hz9 hs9 hb9 (by decide) (by decide) w4.heap.size _ 0 [] (by rfl) o1 ao cap n (entsCells L) hvl s1 hna hone (by rfl) n (by omega) hk1 hk2 (by show _ ≤ (w4.alloc _).heap.size; rw [World.size_alloc]; omega) ?_; intro ao1 cp1 w5 ho5 hg5; have hx5 := ((hx.alloc (.cells #[] 31)).drew).grown hg5 n1; have c05 : w5.cell? ⟨xb, 0, none⟩ = some (.string fid) := hx5.cell 0; have c15 : w5.cell? ⟨xb, 1, none⟩ = some (.slice fao fcs.length fcap) := hx5.cell 1; have b5 : w4.heap.size ≤ (w5.alloc (.cells #[.string fid, .slice fao fcs.length fcap] 31)).heap.size := (by have := hg5.size; rw [World.size_alloc]; change (w4.alloc _).heap.size ≤ _ at this; rw [World.size_alloc] at this; omega); have B5 := ((((below_alloc w4 (.cells #[] 31)).drew).grown hg5 (by show _ ≤ (w4.alloc _).heap.size; rw [World.size_alloc]; omega) (fun k hk => (o1.lt k hk).1)).alloc (by have := hg5.size; change (w4.alloc _).heap.size ≤ _ at this; rw [World.size_alloc] at this; omega) (.cells #[.string fid, .slice fao fcs.length fcap] 31)); have o5 := ho5.alloc (.cells #[.string fid, .slice fao fcs.length fcap] 31); have s5 := slv_made w5 #[.string fid, .slice fao fcs.length fcap] 31 (by simp))
      | (refine step_appsN (by rfl) (.tmp 19) (.tmp 20) 22 (by rfl) 31 i9 _ 2 40 Tryd.ulEnts hi9 hz9 hs9 hb9 (by decide) (by decide) w4.heap.size _ 0 [] (by rfl) o2 ao cap n (entsCells L) hvl s2 hna hone (by rfl) n (by omega) hk1 hk2 (by show _ ≤ ((w4.alloc _).alloc _).heap.size; rw [World.size_alloc, World.size_alloc]; omega) ?_; intro ao1 cp1 w5 ho5 hg5; have b5 : w4.heap.size ≤ w5.heap.size := (by have := hg5.size; change ((w4.alloc _).alloc _).heap.size ≤ _ at this; rw [World.size_alloc, World.size_alloc] at this; omega); have B5 := ((((below_alloc w4 (.cells #[] 31)).alloc (by rw [World.size_alloc]; omega) (.cells #[.string fid, .slice fao fcs.length fcap] 31)).drew).grown hg5 (by show _ ≤ ((w4.alloc _).alloc _).heap.size; rw [World.size_alloc, World.size_alloc]; omega) (fun k hk => (o2.lt k hk).1)); have o5 := ho5; have s5 := u2.grown hg5 n2)
      | (refine step_appsN (by rfl) (.tmp 19) (.tmp 20) 22 (by rfl) 31 i9 _ 2 40 Tryd.ulEnts hi9 hz9 hs9 hb9 (by decide) (by decide) w4.heap.size _ 0 [] (by rfl) o3 ao cap n (entsCells L) hvl s3 hna hone (by rfl) n (by omega) hk1 hk2 (by show _ ≤ ((w4.alloc _).alloc _).heap.size; rw [World.size_alloc, World.size_alloc]; omega) ?_; intro ao1 cp1 w5 ho5 hg5; have b5 : w4.heap.size ≤ w5.heap.size := (by have := hg5.size; change ((w4.alloc _).alloc _).heap.size ≤ _ at this; rw [World.size_alloc, World.size_alloc] at this; omega); have B5 := ((((below_alloc w4 (.cells #[.string fid, .slice fao fcs.length fcap] 31)).alloc (by rw [World.size_alloc]; omega) (.cells #[] 31)).drew).grown hg5 (by show _ ≤ ((w4.alloc _).alloc _).heap.size; rw [World.size_alloc, World.size_alloc]; omega) (fun k hk => (o3.lt k hk).1)); have o5 := ho5; have s5 := u3.grown hg5 n3)
      | (refine step_appsN (by rfl) (.tmp 21) (.tmp 23) 22 (by rfl) 31 i9 _ 2 40 Tryd.ulEnts hi9 hz9 hs9 hb9 (by decide) (by decide) w4.heap.size _ n _ (by rfl) o5 _ 1 1 [.string fid, .slice fao fcs.length fcap] (by simp) s5 (by intro h; cases h) hfone (by rfl) (n + 1) rfl hk3 hk4 b5 ?_; intro ao2 cp2 w6 ho6 hg6; have B6 := B5.grown hg6 b5 (fun k hk => (o5.lt k hk).1)))
  all_goals
    replace hE := hE.below B6
    replace hR := hR.below B6
    have hfw := hf.below (hB.trans (B6.mono hB.size))
    have hB6 := hB.trans (B6.mono hB.size)
    obtain ⟨mo, mc, hmv, hms⟩ := own_rowN ho6 (by unfold maxLen; omega)
    obtain ⟨rfl, rfl⟩ : ao2 = mo ∧ cp2 = mc := by cases hmv; exact ⟨rfl, rfl⟩
    clear hmv
    have hM := hE.app hfw (by simpa [Ent.cells] using hms)
    clear hms ho6 hg6 B6 B5 o5 s5 b5 ho5 hg5
    clear hx c0 c1 hvl hone hfone hm0 hk1 hk2 hk3 c0a c1a o1 o2 o3 s1 s2 s3 u2 u3 n1 n2 n3 hk4 hi9 hz9 hs9 hb9 hB hf hfw
    (try clear hx5)
    (try clear c05 c15)
    obtain ⟨F, hF⟩ : ∃ F : Ent, F = ⟨fid, fao, fcs, fcap⟩ := ⟨_, rfl⟩
    rw [← hF] at hM
    have hml : (L ++ [F]).length = n + 1 := by simp [HLN.out]
    have HML := hid hml
    have hfm := few_any ao2 ro cp2 rc (L ++ [F]) R w6 (fun _ => hM) (by rw [hml]; unfold maxLen; omega) hR
    rw [hml] at hfm
    clear hml
    go_wp2_with fail
    refine hfm.mono ?_
    rintro e w7 ⟨rfl, rfl⟩
    clear hfm
    cases h1 : fewR (L ++ [F]) R with
    | false =>
      go_wp2_with fail
      go_ret
      exact ⟨rfl, hB6⟩
    | true =>
      obtain ⟨hSM, hl12⟩ := few_small (few_cut h1)
      have hrl := few_most h1
      have hS : Small L := ⟨by rw [List.length_append] at hl12; omega, fun e he => hSM.2 e (List.mem_append_left _ he)⟩
      rw [HML.out] at hl12
      clear h1
      have hv1 := valid_any ao cap L w6 hE hS
      rw [HLN.out] at hv1
      go_wp2_with fail
      refine hv1.mono ?_
      rintro e w7 ⟨rfl, hB1⟩
      replace hE := hE.below hB1
      replace hM := hM.below hB1
      replace hR := hR.below hB1
      replace hB6 := hB6.trans (hB1.mono hB6.size)
      clear hv1 hB1
      cases hvl : validB L with
      | false =>
        go_wp2_with fail
        go_ret
        exact ⟨rfl, hB6⟩
      | true =>
        have hv2 := valid_any ao2 cp2 (L ++ [F]) w7 hM hSM
        rw [HML.out] at hv2
        go_wp2_with fail
        refine hv2.mono ?_
        rintro e w8 ⟨rfl, hB1⟩
        replace hE := hE.below hB1
        replace hM := hM.below hB1
        replace hR := hR.below hB1
        replace hB6 := hB6.trans (hB1.mono hB6.size)
        clear hv2 hB1
        cases hvm : validB (L ++ [F]) with
        | false =>
          go_wp2_with fail
          go_ret
          exact ⟨rfl, hB6⟩
        | true =>
          by_cases hr : R.length ≤ 1000
          · have hj1 : judB L R = true := by unfold judB; rw [hvl, decide_eq_true hr]; rfl
            have hj2 : judB (L ++ [F]) R = true := by unfold judB; rw [hvm, decide_eq_true hr]; rfl
            have hs1 := supp_full hj1 hS (cap := cap) (rc := rc) hE hR
            rw [HLN.out] at hs1
            go_wp2_with fail
            refine hs1.mono ?_
            rintro e w9 ⟨sb, rfl, ha, hB1⟩
            replace hE := hE.below hB1
            replace hM := hM.below hB1
            replace hR := hR.below hB1
            replace hB6 := hB6.trans (hB1.mono hB6.size)
            clear hs1 hB1
            have hs2 := supp_full hj2 hSM (cap := cp2) (rc := rc) hM hR
            rw [HML.out] at hs2
            go_wp2_with fail
            refine hs2.mono ?_
            rintro e w10 ⟨tb, rfl, hb, hB1⟩
            replace hE := hE.below hB1
            replace hM := hM.below hB1
            replace ha := ha.below hB1
            replace hB6 := hB6.trans (hB1.mono hB6.size)
            clear hs2 hB1 hR
            have hb2 : SlV w10 (some ⟨tb, 0, none⟩) (bools (supL L R)) := by
              have := hb.take n
              unfold bools at this ⊢
              rw [← List.map_take, ← HLN.out, supL_further R (validB_iff.1 hvl) (validB_iff.1 hvm)] at this
              exact this
            have hby := bools_yes (some ⟨sb, 0, none⟩) (some ⟨tb, 0, none⟩) n (n + 1) (supL L R) w10 ha hb2 (by rw [supL_len, HLN.out]; omega)
            rw [supL_len, HLN.out] at hby
            clear ha hb hb2
            go_wp2_with fail
            refine hby.mono ?_
            rintro e w11 ⟨rfl, hB1⟩
            replace hE := hE.below hB1
            replace hM := hM.below hB1
            replace hB6 := hB6.trans (hB1.mono hB6.size)
            clear hby hB1
            go_wp2_with fail
            go_loopw [13] (fun s13 wr => ∃ t : Nat, s13 = .int .i64 t ∧ t ≤ n ∧ Below w11.heap.size w11 wr) (fun s13 _ => n - (intOf s13).toNat)
            case atStart => exact ⟨0, rfl, by omega, Below.refl _ _⟩
            case round =>
              obtain ⟨t, rfl, ht, hBw⟩ := hrel
              by_cases htn : t < n
              · have hEr := hE.below hBw
                have hMr := hM.below hBw
                obtain ⟨e, he⟩ : ∃ x, L[t]? = some x := ⟨_, List.getElem?_eq_getElem (by rw [HLN.out]; exact htn)⟩
                have hid1 : e.id ∈ ids L := List.mem_map.2 ⟨e, List.mem_of_getElem? he, rfl⟩
                obtain ⟨b0, o0, ea, hb0, a0, -⟩ := hEr.at he
                subst ea
                have htI : (t : Int) < (n : Int) := by omega
                clear he
                generalize e.id = eid at *
                have hq1 := bec_any _ cap L eid wr hEr hS
                rw [HLN.out] at hq1
                go_wp2_with fail
                refine hq1.mono ?_
                rintro e5 w5 ⟨x, g, xo, xc, hbx, rfl, hsx, hB5⟩
                have a05 := (hB5.cell (p := ⟨b0, o0 + t * 2, none⟩) hb0).trans a0
                have hq2 := bec_any ao2 cp2 (L ++ [F]) eid w5 (hMr.below hB5) hSM
                rw [HML.out] at hq2
                go_wp2_with fail
                refine hq2.mono ?_
                rintro e6 w6 ⟨y, h, yo, yc, hby, rfl, hsy, hB6'⟩
                obtain ⟨rfl, rfl⟩ := hbx.uniq (bec_further (validB_iff.1 hvl) (validB_iff.1 hvm) hid1 hby)
                have HB7 := hid (bthen hBw (bthen hB5 hB6'))
                have HSM2 := hid (same01_all xo yo xc yc x w6 (hsx.below hB6') hsy)
                clear hbx hby hsx hsy a0 a05 hq1 hq2
                generalize x.length = xl at *
                go_wp2_with fail
                refine HSM2.out.mono ?_
                rintro e7 w7 ⟨rfl, hB7⟩
                go_wp2_with fail
                go_roundw
                case rel => exact ⟨t + 1, by go_num, by omega, bthen HB7.out hB7⟩
                case measure => simp [intOf]; omega
              · go_wp2_with fail
                go_ret
                exact ⟨rfl, hB6.trans (hBw.mono hB6.size)⟩
          · have hj1 : judB L R = false := by unfold judB; rw [decide_eq_false hr]; simp
            have hj2 : judB (L ++ [F]) R = false := by unfold judB; rw [decide_eq_false hr]; simp
            have hs1 := supp_none hj1 hS (cap := cap) (rc := rc) hE hR (by omega)
            rw [HLN.out] at hs1
            go_wp2_with fail
            refine hs1.mono ?_
            rintro e w9 ⟨bo, cb, rfl, hB1⟩
            replace hM := hM.below hB1
            replace hR := hR.below hB1
            replace hB6 := hB6.trans (hB1.mono hB6.size)
            clear hs1 hB1
            have hs2 := supp_none hj2 hSM (cap := cp2) (rc := rc) hM hR (by omega)
            rw [HML.out] at hs2
            go_wp2_with fail
            refine hs2.mono ?_
            rintro e w10 ⟨bo2, cb2, rfl, hB1⟩
            replace hB6 := hB6.trans (hB1.mono hB6.size)
            clear hs2 hB1
            go_wp2_with fail
            go_ret
            exact ⟨rfl, hB6⟩
end Go.Proofs.YtgkgpfennlkcnaaDoor
