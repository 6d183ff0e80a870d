/- RetractAnyOrder: the walk -/
import Derived.Test.YtgkgpfennlkcnaaDoorRetAny
namespace Go.Proofs.YtgkgpfennlkcnaaDoor
open Go.RowKit

/-- the entries in the opposite order, as far as they are made: each one's causes lie in a row of their own -/
structure Back (L : List Ent) (w : World) (A k : Nat) (v : Value) (B : List Ent) : Prop where
  own : w.ownsRow A 31 2 v k (entsCells B)
  len : B.length = k
  is : ps B = (revE (ps L)).take k
  cs : ∀ e ∈ B, SlV w e.ao (strsV e.cs) ∧ e.cs.length ≤ e.cap ∧ e.cap ≤ maxLen
  apart : ∀ e ∈ B, ∀ b off, e.ao = some ⟨b, off, none⟩ → b < w.heap.size ∧ v.ownBlock ≠ some b
theorem Back.start (L : List Ent) (w : World) (A : Nat) : Back L w A 0 (.slice none 0 0) [] :=
  ⟨World.ownsRow_nil _ _ _ _, rfl, rfl, by simp, by simp⟩
theorem SlV.grown {w w' : World} {row : Option Nat} {ao : Option Addr} {l : List Value} (h : SlV w ao l) (hg : w.grownBy w' row) (hn : ∀ b off, ao = some ⟨b, off, none⟩ → row ≠ some b) : SlV w' ao l :=
  ⟨h.len, fun i x hi => by
    obtain ⟨b, off, e, hb, hx⟩ := h.cell i x hi
    have := hg.size
    exact ⟨b, off, e, by omega, by rw [← hx]; exact World.cell?_of_block (w := w) (hg.block b hb (fun q => hn b off e q.symm))⟩⟩
theorem own_caps {w : World} {B n : Nat} {E : TypeId} {v : Value} {xs : List Value} (h : w.ownsRow B E 1 v n xs) : ∃ ao cap, v = .slice ao n cap ∧ n ≤ cap ∧ cap ≤ maxLen ∧ SlV w ao xs ∧ ∀ b off, ao = some ⟨b, off, none⟩ → B ≤ b ∧ b < w.heap.size := by
  obtain ⟨h1, h2⟩ := h
  rcases h2 with ⟨e, h3⟩ | ⟨g, cap, cur, hv, hg, hh, h4, h5, h6, h7⟩
  · have hx : xs = [] := List.eq_nil_of_length_eq_zero (by rw [h1, h3])
    subst hx
    exact ⟨none, 0, by rw [e, h3], by omega, by unfold maxLen; omega, ⟨by simp, by simp⟩, fun _ _ q => by cases q⟩
  · have hlt : g < w.heap.size := (Array.getElem?_eq_some_iff.1 hh).1
    refine ⟨_, cap, hv, h4, h5, ⟨by omega, fun i x hi => ⟨g, 0, rfl, hlt, ?_⟩⟩, fun b off q => by cases q; exact ⟨hg, hlt⟩⟩
    have hb : Blk w g E cur.toList := by unfold Blk; simpa using hh
    rw [hb.cell, Nat.zero_add]
    have := congrArg (fun l => l[i]?) h7
    have hil := (List.getElem?_eq_some_iff.1 hi).1
    rw [h1] at hil
    simp only [List.getElem?_take] at this
    rw [if_pos (by omega)] at this
    rw [this, hi]
theorem Back.step {L : List Ent} {wo wr w2 : World} {A k xb i g cap cl vc ecap : Nat} {u6 v : Value} {B : List Ent} {eid : ByteArray} {eao va : Option Addr} {ecs : List ByteArray} (hb : Back L wo A k u6 B) (hxb : wo.heap.size = xb) (hBi : Below xb wo wr) (hi : L.length - 1 - k = i) (hk : k < L.length)
    (he : L[i]? = some ⟨eid, eao, ecs, ecap⟩) (hv : v = .slice va cl vc) (hcl : ecs.length = cl) (hc1 : cl ≤ vc) (hc2 : vc ≤ maxLen) (hs : SlV wr va (strsV ecs.reverse)) (hva : ∀ b off, va = some ⟨b, off, none⟩ → xb + 1 ≤ b ∧ b < wr.heap.size)
    (hg : wr.grownBy w2 u6.ownBlock) (hat : u6.ownBlock = some g ∨ wr.heap.size ≤ g) (hown : w2.ownsRow A 31 2 (.slice (some ⟨g, 0, none⟩) (k + 1) cap) (k + 1) (entsCells B ++ [.string eid, v])) :
    Back L w2 A (k + 1) (.slice (some ⟨g, 0, none⟩) (k + 1) cap) (B ++ [⟨eid, va, ecs.reverse, vc⟩]) := by
  have hsz := hBi.size
  have hgz := hg.size
  have hrl : ecs.reverse.length = cl := by simp [hcl]
  have hul : ∀ q, u6.ownBlock = some q → q < xb := fun q hq => by rw [← hxb]; exact (hb.own.lt q hq).2
  refine ⟨?_, by simp [hb.len], ?_, fun e h => ?_, fun e h b off q => ?_⟩
  · have e1 : entsCells (B ++ [⟨eid, va, ecs.reverse, vc⟩]) = entsCells B ++ [.string eid, v] := by rw [hv]; simp [entsCells, Ent.cells, hcl]
    rw [e1]; exact hown
  · have hpl : (ps L).length = L.length := by simp [ps]
    have := rev_step (P := ps L) (k := k) (e := ⟨eid, ecs⟩) (ps_get.2 ⟨_, by rw [hpl, show L.length - (k + 1) = i by omega]; exact he, rfl⟩) (by omega)
    rw [this, ← hb.is]
    simp [ps, rvE, Ent.p]
  · rcases List.mem_append.1 h with h | h
    · obtain ⟨h1, h2⟩ := hb.cs e h
      have := h1.below (by rw [hxb]; exact hBi)
      exact ⟨this.grown hg (fun b off q => (hb.apart e h b off q).2), h2⟩
    · rw [List.mem_singleton.1 h]
      refine ⟨hs.grown hg (fun b off q hq => ?_), by rw [hrl]; exact hc1, hc2⟩
      have a := (hva b off q).1
      have b := hul _ hq
      omega
  · rcases List.mem_append.1 h with h | h
    · obtain ⟨h1, h2⟩ := hb.apart e h b off q
      refine ⟨by omega, fun hq => ?_⟩
      obtain rfl : g = b := by simpa [Value.ownBlock] using hq
      rcases hat with hat | hat
      · exact h2 hat
      · omega
    · rw [List.mem_singleton.1 h] at q
      obtain ⟨h1, h2⟩ := hva b off q
      refine ⟨by omega, fun hq => ?_⟩
      obtain rfl : g = b := by simpa [Value.ownBlock] using hq
      rcases hat with hat | hat
      · have := hul _ hat; omega
      · omega
set_option maxHeartbeats 2000000 in
theorem same01_all (ao bo : Option Addr) (ca cb : Nat) (l : List ByteArray) (w : World) (hA : SlV w ao (strsV l)) (hB : SlV w bo (strsV l)) :
    Calls Tryd.prog 16 #[.slice ao l.length ca, .slice bo l.length cb] w fun e w' => e = .returned (.bool true) ∧ Below w.heap.size w w' := by
  have hl : l.length ≤ 9223372036854775807 := by have := hA.len; unfold strsV maxLen at this; rw [List.length_map] at this; omega
  generalize hn : l.length = n at *
  have HN := hid hn
  clear hn
  go_enter Tryd.func16, Tryd.ntmps16
  go_wp2_with fail
  go_loopw [5] (fun s5 wr => ∃ k : Nat, s5 = .int .i64 k ∧ k ≤ n ∧ Below w.heap.size w wr) (fun s5 _ => n - (intOf s5).toNat)
  case atStart => exact ⟨0, rfl, by omega, Below.refl _ _⟩
  case round =>
    obtain ⟨k, rfl, hk, hBw⟩ := hrel
    by_cases hkn : k < n
    · obtain ⟨x, hx⟩ : ∃ x, l[k]? = some x := ⟨_, List.getElem?_eq_getElem (by rw [HN.out]; omega)⟩
      obtain ⟨b1, o1, e1, _, c1⟩ := (hA.below hBw).cell k (.string x) (by unfold strsV; rw [List.getElem?_map, hx]; rfl)
      obtain ⟨b2, o2, e2, _, c2⟩ := (hB.below hBw).cell k (.string x) (by unfold strsV; rw [List.getElem?_map, hx]; rfl)
      subst e1 e2
      have hkI : (k : Int) < (n : Int) := by omega
      have hq : (x.toList == x.toList) = true := beq_self_eq_true _
      clear hA hB hx
      go_wp2_with fail
      refine wp_region_quiet_all (by kernel_rfl) (by kernel_rfl) ?_
      repeat (go_big_quiet_step (fail))
      refine wpQuiet_end ?_
      go_wp2_with fail
      go_roundw
      case rel => exact ⟨k + 1, by go_num, by omega, hBw.drew⟩
      case measure => simp [intOf]; omega
    · go_wp2_with fail
      go_ret
      exact ⟨rfl, hBw⟩
theorem Tryd.ulEnts : Tryd.prog.underlying 22 = some (.slice 31) := by kernel_rfl
theorem Tryd.inEnt : (Tryd.prog.info? 31).map (fun i => (i.zero, i.size, i.bytes)) = some (some (.agg #[.string ByteArray.empty, .slice none 0 0]), 2, 40) := by kernel_rfl
theorem own_rowN {w : World} {B n : Nat} {E : TypeId} {v : Value} {xs : List Value} (h : w.ownsRow B E 2 v n xs) (hl : 2 * n ≤ maxLen) : ∃ ao cap, v = .slice ao n cap ∧ SlV w ao xs := by
  obtain ⟨h1, h2⟩ := h
  rcases h2 with ⟨e, h3⟩ | ⟨g, cap, cur, hv, hg, hh, h4, h5, h6, h7⟩
  · have hx : xs = [] := List.eq_nil_of_length_eq_zero (by rw [h1, h3])
    subst hx
    exact ⟨none, 0, by rw [e, h3], ⟨by simp, by simp⟩⟩
  · have hlt : g < w.heap.size := (Array.getElem?_eq_some_iff.1 hh).1
    refine ⟨_, cap, hv, ⟨by omega, fun i x hi => ⟨g, 0, rfl, hlt, ?_⟩⟩⟩
    have hb : Blk w g E cur.toList := by unfold Blk; simpa using hh
    rw [hb.cell, Nat.zero_add]
    have := congrArg (fun l => l[i]?) h7
    have hil := (List.getElem?_eq_some_iff.1 hi).1
    rw [h1] at hil
    simp only [List.getElem?_take] at this
    rw [if_pos (by omega)] at this
    rw [this, hi]
theorem small_back {L B : List Ent} (h : ps B = revE (ps L)) (hs : Small L) : Small B := by
  refine ⟨by rw [back_len h]; exact hs.1, fun e he => ?_⟩
  have hm : e.p ∈ revE (ps L) := by rw [← h]; exact List.mem_map.2 ⟨e, he, rfl⟩
  unfold revE at hm
  rw [List.mem_reverse] at hm
  obtain ⟨d, hd, hq⟩ := List.mem_map.1 hm
  obtain ⟨x, hx, rfl⟩ := List.mem_map.1 hd
  have := hs.2 x hx
  have h1 : e.id = x.id := (congrArg En.id hq).symm
  have h2 : e.cs = x.cs.reverse := (congrArg En.cs hq).symm
  rw [h1, h2]
  simpa using this
theorem supR_back {L B : List Ent} (h : ps B = revE (ps L)) (R : List ByteArray) : supR B R = ((supR L R).1.reverse, (supR L R).2) := by
  have hj : judB B R = judB L R := by unfold judB; rw [valid_back h]
  unfold supR
  rw [hj, supL_back h]
  split <;> rfl
theorem supR_len (L : List Ent) (R : List ByteArray) : (supR L R).1.length ≤ L.length := by
  unfold supR
  split
  · rw [supL_len]; exact Nat.le_refl _
  · simp
theorem ent_p {w : World} {xb : Nat} {T : TypeId} {id : ByteArray} {v : Value} (h : Blk w xb T [.string id, v]) : w.cell? ⟨xb, 0, none⟩ = some (.string id) ∧ w.cell? ⟨xb, 1, none⟩ = some v := ⟨h.cell 0, h.cell 1⟩
set_option maxHeartbeats 4000000 in
set_option maxRecDepth 100000 in
theorem any_walk (ao ro : Option Addr) (cap rc : Nat) (L : List Ent) (R : List ByteArray) (w : World) (hE : L.length ≤ 1000 → Ents w ao L) (hlm : L.length ≤ maxLen) (hR : SlV w ro (strsV R)) :
    Calls Tryd.prog 5 #[.slice ao L.length cap, .slice ro R.length rc] w fun e w' => e = .returned (.bool true) ∧ Below w.heap.size w w' := by
  cases h1 : fewR L R with
  | false =>
    go_enter Tryd.func5, Tryd.ntmps5
    go_wp2_with fail
    refine (head_any w).mono ?_
    rintro e w1 ⟨rfl, hB⟩
    go_wp2_with fail
    refine (few_any _ _ _ _ L R w1 (fun h => (hE h).below hB) hlm (hR.below hB)).mono ?_
    rintro e w2 ⟨rfl, rfl⟩
    rw [h1]
    go_wp2_with fail
    go_ret
    exact ⟨rfl, hB⟩
  | true =>
    obtain ⟨hS, hl12⟩ := few_small (few_cut h1)
    have hrl := few_most h1
    have hfew : ∀ w1, Below w.heap.size w w1 → Calls Tryd.prog 9 #[.slice ao L.length cap, .slice ro R.length rc] w1 fun e w' => e = .returned (.bool true) ∧ w1 = w' := by
      intro w1 hB
      have := few_any ao ro cap rc L R w1 (fun h => (hE h).below hB) hlm (hR.below hB)
      rw [h1] at this
      exact this
    have hcs := hid (fun (e : Ent) (he : e ∈ L) => few_cs (few_cut h1) he)
    replace hE := hE (by omega)
    have HSM := hid hS
    clear h1 hS
    generalize hln : L.length = n at *
    have HLN := hid hln
    clear hln
    go_enter Tryd.func5, Tryd.ntmps5
    go_wp2_with fail
    refine (head_any w).mono ?_
    rintro e w1 ⟨rfl, hB⟩
    go_wp2_with fail
    refine (hfew w1 hB).mono ?_
    rintro e w2 ⟨rfl, rfl⟩
    clear hfew
    replace hE := hE.below hB
    replace hR := hR.below hB
    obtain ⟨A, hA⟩ : ∃ A, w1.heap.size = A := ⟨_, rfl⟩
    go_wp2_with fail
    go_loopw [6, 7] (fun s6 s7 wr => ∃ (k : Nat) (B : List Ent), s7 = .int .i64 ((n : Int) - 1 - k) ∧ k ≤ n ∧ Back L wr A k s6 B ∧ Below A w1 wr ∧ A ≤ wr.heap.size) (fun _ s7 _ => (intOf s7 + 1).toNat)
    case atStart => exact ⟨0, [], by go_num, by omega, Back.start L w1 A, Below.refl _ _, by omega⟩
    case round =>
      obtain ⟨k, B, rfl, hk, hb, hBw, hAs⟩ := hrel
      obtain ⟨wo, hwo⟩ : ∃ x, x = wr := ⟨_, rfl⟩
      subst hwo
      by_cases hkn : k < n
      · obtain ⟨i, hi⟩ : ∃ i, n - 1 - k = i := ⟨_, rfl⟩
        have hiI : (n : Int) - 1 - k = (i : Int) := by omega
        rw [hiI]
        obtain ⟨e, he⟩ : ∃ x, L[i]? = some x := ⟨_, List.getElem?_eq_getElem (by rw [HLN.out]; omega)⟩
        have hEr : Ents wo ao L := hE.below (by rw [hA]; exact hBw)
        obtain ⟨b0, o0, ea, hb0, a0, a1⟩ := hEr.at he
        have hce := hEr.cs e (List.mem_of_getElem? he)
        have hcl := hcs.out e (List.mem_of_getElem? he)
        have HE := hid he
        obtain ⟨eid, eao, ecs, ecap⟩ := e
        simp only at a0 a1 hce hcl
        subst ea
        generalize hcn : ecs.length = cl at *
        have HCN := hid hcn
        clear hcn he
        have hin : i < n := by omega
        have hiI0 : (0 : Int) ≤ (i : Int) := by omega
        have hiI1 : (i : Int) < (n : Int) := by omega
        go_wp2_with fail
        obtain ⟨xb, hxb⟩ : ∃ xb, wo.heap.size = xb := ⟨_, rfl⟩
        have hx0 : Blk (wo.alloc (.cells #[.string eid, .slice none 0 0] 31)) xb 31 [.string eid, .slice none 0 0] := by rw [← hxb]; exact Blk.new _ _ _
        have hB0 : Below xb wo (wo.alloc (.cells #[.string eid, .slice none 0 0] 31)) := by rw [← hxb]; exact below_alloc _ _
        have hz0 : (wo.alloc (.cells #[.string eid, .slice none 0 0] 31)).heap.size = xb + 1 := by rw [← hxb]; exact World.size_alloc _ _
        rw [hxb]
        generalize wo.alloc (.cells #[.string eid, .slice none 0 0] 31) = wx at *
        go_loopw [9] (fun s9 wi => ∃ (j : Nat) (v : Value) (xs : List Value), s9 = .int .i64 ((cl : Int) - 1 - j) ∧ j ≤ cl ∧ Blk wi xb 31 [.string eid, v] ∧ wi.ownsRow (xb + 1) 9 1 v xs.length xs ∧ Hid (xs = strsV (ecs.reverse.take j)) ∧ xs.length = j ∧ Below xb wo wi ∧ xb + 1 ≤ wi.heap.size) (fun s9 _ => (intOf s9 + 1).toNat)
        case atStart => exact ⟨0, .slice none 0 0, [], by go_num, by omega, hx0, World.ownsRow_nil _ _ _ _, hid rfl, rfl, hB0, by omega⟩
        case round =>
          obtain ⟨j, v, xs, rfl, hj, hx, how, HXS, hxl, hBi, hsz⟩ := hrel
          by_cases hjc : j < cl
          · obtain ⟨q, hq⟩ : ∃ q, cl - 1 - j = q := ⟨_, rfl⟩
            have hqI : (cl : Int) - 1 - j = (q : Int) := by omega
            rw [hqI]
            obtain ⟨c, hc⟩ : ∃ x, ecs[q]? = some x := ⟨_, List.getElem?_eq_getElem (by rw [HCN.out]; omega)⟩
            have a1i := (hBi.cell (p := ⟨b0, o0 + i * 2 + 1, none⟩) (by rw [← hxb]; exact hb0)).trans a1
            obtain ⟨b2, o2, e2, hb2, d2⟩ := hce.cell q (.string c) (by rw [List.getElem?_map, hc]; rfl)
            subst e2
            have d2i := (hBi.cell (p := ⟨b2, o2 + q, none⟩) (by rw [← hxb]; exact hb2)).trans d2
            have c1 : wr.cell? ⟨xb, 1, none⟩ = some v := hx.cell 1
            have hxv : some xb ≠ v.ownBlock := fun u => by have := (how.lt xb u.symm).1; omega
            have HC := hid hc
            have hqI0 : (0 : Int) ≤ (q : Int) := by omega
            have hqI1 : (q : Int) < (cl : Int) := by omega
            have hl1 : xs.length + 1 ≤ maxLen := by unfold maxLen; omega
            have hl2 : (xs.length + 1) * 16 ≤ 140737488355328 := by omega
            clear hc
            obtain ⟨i9, hi9, hz9, hs9, hb9⟩ := info_parts Tryd.inStr
            have hw1 : ((wr.alloc (.cells #[.string c] 9)).drew).ownsRow (xb + 1) 9 1 v xs.length xs := how.alloc _
            have hnews : ∀ q u, [Value.string c][q]? = some u → ((wr.alloc (.cells #[.string c] 9)).drew).cell? ((⟨wr.heap.size, 0, none⟩ : Addr).add q) = some u := World.news_of_block (heap_alloc_new wr _)
            have ho1 : ∀ u ∈ [Value.string c], u.oneCell' = true := by intro u hu; simp at hu; subst hu; rfl
            have hbs : xb + 1 ≤ ((wr.alloc (.cells #[.string c] 9)).drew).heap.size := by show xb + 1 ≤ (wr.alloc _).heap.size; rw [World.size_alloc]; omega
            have hsz1 : ((wr.alloc (.cells #[.string c] 9)).drew).heap.size = wr.heap.size + 1 := by show (wr.alloc _).heap.size = _; rw [World.size_alloc]
            have hnX := World.new_ne wr _ c1
            have c1a : (wr.alloc (.cells #[.string c] 9)).cell? ⟨xb, 1, none⟩ = some v := ((below_alloc wr _).cell (p := ⟨xb, 1, none⟩) hx.lt).trans c1
            go_upto_region 12 with fail
            go_region_law
              (refine step_append_lies _ (by rfl) _ _ 23 (by rfl) (xb + 1) 9 i9 _ 1 16 Tryd.ulStrs hi9 hz9 hs9 hb9 (by decide) (by decide) v xs.length xs (by rfl) hw1 ⟨wr.heap.size, 0, none⟩ 1 1 [.string c] (by rfl) rfl hnews ho1 (by decide) hl1 hl2 hbs (wr.heap.size + 1) hsz1 ?_; intro g6 cap6 w6 hown6 hgrow6 hat6 hlt6; have hX6 := ((hx.alloc (.cells #[.string c] 9)).drew).grown hgrow6 hxv; have f6 := hX6.free 1; have c6 : w6.cell? ⟨xb, 1, none⟩ = some v := hX6.cell 1)
            all_goals
              have hgw : wr.grownBy w6 v.ownBlock := (grownBy_drew (World.grownBy_alloc wr (.cells #[.string c] 9) v.ownBlock)).trans hgrow6
              rw [hxl] at hown6
              have hX7 : Blk (w6.setCell ⟨xb, 1, none⟩ (.slice (some ⟨g6, 0, none⟩) (j + 1) cap6)) xb 31 [.string eid, .slice (some ⟨g6, 0, none⟩) (j + 1) cap6] := hX6.set 1 (.slice (some ⟨g6, 0, none⟩) (j + 1) cap6)
              have hcS : Chg (fun u => u = xb) w6 (w6.setCell ⟨xb, 1, none⟩ (.slice (some ⟨g6, 0, none⟩) (j + 1) cap6)) := (Chg.refl (fun u => u = xb) w6).set (p := ⟨xb, 1, none⟩) rfl _
              have hown7 := ownsRow_chg hown6 hcS (fun u hu hux => by have := (hown6.lt u hu).1; omega)
              have hB7 := (hBi.grown hgw (by omega) (fun u hu => by have := (how.lt u hu).1; omega)).setCell (p := ⟨xb, 1, none⟩) (Nat.le_refl _) (.slice (some ⟨g6, 0, none⟩) (j + 1) cap6)
              have hz7 : xb + 1 ≤ (w6.setCell ⟨xb, 1, none⟩ (.slice (some ⟨g6, 0, none⟩) (j + 1) cap6)).heap.size := hX7.lt
              have hl7 : (xs ++ [Value.string c]).length = j + 1 := by simp [hxl]
              have HX7 : Hid (xs ++ [Value.string c] = strsV (ecs.reverse.take (j + 1))) := by
                unfold Hid
                rw [List.take_add_one, List.getElem?_reverse (by rw [HCN.out]; exact hjc), HCN.out, hq, HC.out, HXS.out]
                simp [strsV]
              clear hown6 hcS hX6 hgrow6 hgw c6 f6 hw1 hnews hbs hsz1 hnX c1a c1 a1i d2i how
              go_wp2_with fail
              go_roundw
              case rel => exact ⟨j + 1, _, xs ++ [.string c], by go_num, by omega, hX7, by rw [hl7]; exact hown7, HX7, hl7, hB7, hz7⟩
              case measure => first | (simp [intOf]; omega) | simp [intOf]
          · obtain rfl : j = cl := by omega
            obtain ⟨va, vc, hv, hc1, hc2, hsv, hva⟩ := own_caps how
            rw [hxl] at hv hc1
            rw [HXS.out, List.take_of_length_le (by simp [HCN.out])] at hsv
            subst hv
            have c0 : wr.cell? ⟨xb, 0, none⟩ = some (.string eid) := hx.cell 0
            have c1 : wr.cell? ⟨xb, 1, none⟩ = some (.slice va j vc) := hx.cell 1
            have hbo := ownsRow_chgN hb.own ((Chg.refl (fun q => xb ≤ q) wo).below hBi (fun _ _ h => h)) (fun q hq h => by have := (hb.own.lt q hq).2; omega)
            have hm : MineN 2 A w1 wr 31 u6 k (entsCells B) := ⟨hbo, hBw.trans (hBi.mono (by omega)), by omega⟩
            have hone : ∀ u ∈ (#[Value.string eid, .slice va j vc] : Array Value).toList, u.oneCell' = true := by intro u hu; simp at hu; rcases hu with rfl | rfl <;> rfl
            have hl1 : k + 1 ≤ maxLen := by unfold maxLen; omega
            have hl2 : (k + 1) * 40 ≤ 140737488355328 := by omega
            have HBK := hid (fun (w2 : World) (g cap : Nat) => Back.step (w2 := w2) (g := g) (cap := cap) hb hxb hBi (by rw [HLN.out]; exact hi) (by rw [HLN.out]; exact hkn) HE.out rfl HCN.out hc1 hc2 hsv hva)
            clear hsv hva hbo how
            go_wp2_with (at_builtin; refine wpl_appN rfl _ _ 22 rfl 31 _ 2 40 Tryd.ulEnts Tryd.inEnt rfl (by decide) _ _ _ _ _ hm rfl #[.string eid, .slice va j vc] rfl hone rfl hl1 hl2 ?_; intro g2 cap2 w2 hm2 hg2 hBg2 hat2)
            go_roundw
            case rel =>
              exact ⟨k + 1, _, by go_num, by omega, HBK.out _ _ _ hg2 hat2 hm2.own, hm2.below, hm2.base⟩
            case measure => first | (simp [intOf]; omega) | simp [intOf]
      · obtain rfl : k = n := by omega
        obtain ⟨bo, bc, hv6, hs6⟩ := own_rowN hb.own (by unfold maxLen; omega)
        have hBE : Ents wo bo B := ⟨hs6, fun e he => (hb.cs e he).1, fun e he => (hb.cs e he).2⟩
        have hps : ps B = revE (ps L) := by rw [hb.is, List.take_of_length_le (by simp [revE, ps, HLN.out])]
        have hBl := hb.len
        have hE2 : Ents wo ao L := hE.below (by rw [hA]; exact hBw)
        have hR2 : SlV wo ro (strsV R) := hR.below (by rw [hA]; exact hBw)
        have hBB : Below w.heap.size w wo := hB.trans (hBw.mono (by have := hB.size; omega))
        have hrev := supR_back hps R
        have hM := supR_len L R
        rw [HLN.out] at hM
        have HS1 := hid (fun (w : World) (h : Ents w ao L) (hr : SlV w ro (strsV R)) => supp_any ao ro cap rc L R w h HSM.out hr (by omega))
        have HS2 := hid (fun (w : World) (h : Ents w bo B) (hr : SlV w ro (strsV R)) => supp_any bo ro bc rc B R w h (small_back hps HSM.out) hr (by omega))
        have HB1 := hid (fun (w : World) (id : ByteArray) (h : Ents w ao L) => bec_any ao cap L id w h HSM.out)
        have HB2 := hid (fun (w : World) (id : ByteArray) (h : Ents w bo B) => bec_any bo bc B id w h (small_back hps HSM.out))
        have HBK := hid (fun (id : ByteArray) (x y : List ByteArray) (e f : Int) (h : BecIs L id x e) (k : BecIs B id y f) => h.uniq (bec_back hps k))
        rw [HLN.out] at HS1 HB1
        rw [hBl] at HS2 HB2
        rw [hrev] at HS2
        generalize supR L R = r at *
        obtain ⟨M, er⟩ := r
        subst hv6
        clear hb hs6 hps hBl hrev hE hR hB hBw
        generalize hml : M.length = m at *
        simp only at HS1 HS2 hM hml
        have HT1 : Hid (∀ w : World, Ents w ao L → SlV w ro (strsV R) → Calls Tryd.prog 10 #[.slice ao k cap, .slice ro R.length rc] w fun e w' => ∃ so sc, e = .returned (.tuple #[.slice so m sc, .int .i64 er]) ∧ SlV w' so (bools M) ∧ Below w.heap.size w w') :=
          hid fun w h hr => (HS1.out w h hr).mono fun e w' ⟨so, sc, q1, q2, q3⟩ => ⟨so, sc, by rw [q1, hml], q2, q3⟩
        have HT2 : Hid (∀ w : World, Ents w bo B → SlV w ro (strsV R) → Calls Tryd.prog 10 #[.slice bo k bc, .slice ro R.length rc] w fun e w' => ∃ so sc, e = .returned (.tuple #[.slice so m sc, .int .i64 er]) ∧ SlV w' so (bools M.reverse) ∧ Below w.heap.size w w') :=
          hid fun w h hr => (HS2.out w h hr).mono fun e w' ⟨so, sc, q1, q2, q3⟩ => ⟨so, sc, by rw [q1, List.length_reverse, hml], q2, q3⟩
        have HML := hid hml
        clear HS1 HS2 hml
        go_wp2_with fail
        refine (HT1.out _ hE2 hR2).mono ?_
        rintro e w2 ⟨so, sc, rfl, hs1, hB1⟩
        replace hE2 := hE2.below hB1
        replace hBE := hBE.below hB1
        replace hR2 := hR2.below hB1
        replace hBB := bthen hBB hB1
        clear hB1
        go_wp2_with fail
        refine (HT2.out _ hBE hR2).mono ?_
        rintro e w3 ⟨uo, uc, rfl, hs2, hB1⟩
        replace hE2 := hE2.below hB1
        replace hBE := hBE.below hB1
        replace hs1 := hs1.below hB1
        replace hBB := bthen hBB hB1
        clear hB1 hR2 HT1 HT2
        go_wp2_with fail
        go_loopw [14] (fun s14 wr => ∃ t : Nat, s14 = .int .i64 t ∧ t ≤ m ∧ Below w3.heap.size w3 wr) (fun s14 _ => m - (intOf s14).toNat)
        case atStart => exact ⟨0, rfl, by omega, Below.refl _ _⟩
        case round =>
          obtain ⟨t, rfl, ht, hBw⟩ := hrel
          by_cases htm : t < m
          · obtain ⟨x, hx⟩ : ∃ x, M[t]? = some x := ⟨_, List.getElem?_eq_getElem (by rw [HML.out]; exact htm)⟩
            obtain ⟨q, hq⟩ : ∃ q, m - 1 - t = q := ⟨_, rfl⟩
            have hy : M.reverse[q]? = some x := by
              rw [List.getElem?_reverse (by rw [HML.out]; omega), HML.out, show m - 1 - q = t by omega]
              exact hx
            obtain ⟨g1, o1, e1, _, d1⟩ := (hs1.below hBw).cell t (.bool x) (by unfold bools; rw [List.getElem?_map, hx]; rfl)
            obtain ⟨g2, o2, e2, _, d2⟩ := (hs2.below hBw).cell q (.bool x) (by unfold bools; rw [List.getElem?_map, hy]; rfl)
            subst e1 e2
            have hqI : (m : Int) - 1 - (t : Int) = (q : Int) := by omega
            have htI : (t : Int) < (m : Int) := by omega
            have hq0 : (0 : Int) ≤ (q : Int) := by omega
            have hq1 : (q : Int) < (m : Int) := by omega
            clear hs1 hs2 hx hy
            go_wp2_with fail
            refine wp_region_quiet_all (by kernel_rfl) (by kernel_rfl) ?_
            repeat (go_big_quiet_step (fail))
            refine wpQuiet_end ?_
            cases x
            all_goals
              go_wp2_with fail
              go_roundw
              case rel => exact ⟨t + 1, by go_num, by omega, hBw.drew⟩
              case measure => simp [intOf]; omega
          · replace hE2 := hE2.below hBw
            replace hBE := hBE.below hBw
            replace hBB := bthen hBB hBw
            obtain ⟨w4, hw4⟩ : ∃ x, x = wr := ⟨_, rfl⟩
            subst hw4
            clear hs1 hs2
            go_wp2_with fail
            go_loopw [15] (fun s15 wr => ∃ t : Nat, s15 = .int .i64 t ∧ t ≤ k ∧ Below w4.heap.size w4 wr) (fun s15 _ => k - (intOf s15).toNat)
            case atStart => exact ⟨0, rfl, by omega, Below.refl _ _⟩
            case round =>
              obtain ⟨t2, rfl, ht2, hBw2⟩ := hrel
              by_cases htk : t2 < k
              · have hEr := hE2.below hBw2
                have hBr := hBE.below hBw2
                obtain ⟨e, he⟩ : ∃ x, L[t2]? = some x := ⟨_, List.getElem?_eq_getElem (by rw [HLN.out]; exact htk)⟩
                obtain ⟨b0, o0, ea, hb0, a0, -⟩ := hEr.at he
                subst ea
                have htI : (t2 : Int) < (k : Int) := by omega
                clear he
                generalize e.id = eid at *
                go_wp2_with fail
                refine (HB1.out _ eid hEr).mono ?_
                rintro e5 w5 ⟨x, f, xo, xc, hbx, rfl, hsx, hB5⟩
                have a05 := (hB5.cell (p := ⟨b0, o0 + t2 * 2, none⟩) hb0).trans a0
                go_wp2_with fail
                refine (HB2.out _ eid (hBr.below hB5)).mono ?_
                rintro e6 w6 ⟨y, g, yo, yc, hby, rfl, hsy, hB6⟩
                obtain ⟨rfl, rfl⟩ := HBK.out _ _ _ _ _ hbx hby
                have hsx6 := hsx.below hB6
                have HB7 := hid (bthen hBw2 (bthen hB5 hB6))
                have HSM2 := hid (same01_all xo yo xc yc x w6 hsx6 hsy)
                clear hbx hby hsx hsx6 hsy a0 a05
                generalize x.length = xl at *
                go_wp2_with fail
                refine HSM2.out.mono ?_
                rintro e7 w7 ⟨rfl, hB7⟩
                go_wp2_with fail
                go_roundw
                case rel => exact ⟨t2 + 1, by go_num, by omega, bthen HB7.out hB7⟩
                case measure => simp [intOf]; omega
              · go_wp2_with fail
                go_ret
                exact ⟨rfl, bthen hBB hBw2⟩
theorem any_law (a0 : Option Addr) (len0 cap0 : Nat) (z0 : List Ent) (a1 : Option Addr) (len1 cap1 : Nat) (z1 : List ByteArray) (W : World) (w0 : EntsArg W a0 len0 cap0 z0) (w1 : StrsArg W a1 len1 cap1 z1) :
    Calls Tryd.prog 5 #[.slice a0 len0 cap0, .slice a1 len1 cap1] W fun e w' => e = .returned (.bool true) ∧ Below W.heap.size W w' := by
  have h0 := w0.hlen
  have h1 := w1.hlen
  subst h0 h1
  exact any_walk a0 a1 cap0 cap1 z0 z1 W w0.ents (Nat.le_trans w0.hcap w0.hmax) w1.slv
end Go.Proofs.YtgkgpfennlkcnaaDoor
