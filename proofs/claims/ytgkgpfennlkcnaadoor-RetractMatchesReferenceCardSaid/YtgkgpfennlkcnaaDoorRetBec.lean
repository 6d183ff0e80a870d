/- retract: Because -/
import Derived.Test.YtgkgpfennlkcnaaDoorRetBecM
namespace Go.Proofs.YtgkgpfennlkcnaaDoor
open Go.RowKit

def BecPost (L : List Ent) (id : ByteArray) (w : World) (e : Ending) (w' : World) : Prop :=
  ∃ (x : List ByteArray) (er : Int) (ao : Option Addr) (cap : Nat), BecIs L id x er ∧ e = .returned (.tuple #[.slice ao x.length cap, .int .i64 er]) ∧ SlV w' ao (strsV x) ∧ Below w.heap.size w w'
theorem BecPost.none {L : List Ent} {id : ByteArray} {w w' : World} {er : Int} {u v : Value} (h : BecIs L id [] er) (hu : u = .slice none 0 0) (hv : v = .int .i64 er) (hB : Below w.heap.size w w') : BecPost L id w (.returned (.tuple #[u, v])) w' :=
  ⟨[], er, Option.none, 0, h, by rw [hu, hv]; rfl, ⟨by simp [strsV], by simp [strsV]⟩, hB⟩
theorem Tryd.ulChs : Tryd.prog.underlying 54 = some (.slice 23) := by kernel_rfl
theorem Tryd.inStrs : (Tryd.prog.info? 23).map (fun i => (i.zero, i.size, i.bytes)) = some (some (.slice none 0 0), 1, 24) := by kernel_rfl
theorem Tryd.ulFnd : Tryd.prog.underlying 56 = some (.map 3 23) := by kernel_rfl
theorem Tryd.ulInt0 : Tryd.prog.underlying 3 = some (.int .i64) := by kernel_rfl
theorem Tryd.hv_strs : ∀ w, (zeroValue 23).run Tryd.prog w = .ok (.slice none 0 0) w := by intro w; kernel_rfl
theorem unk_all (f : Nat → List ByteArray) (n : Nat) : unk f n ≤ n := by
  unfold unk
  have := List.length_filter_le (fun i => decide (f i = [])) (List.range n)
  rw [List.length_range] at this; exact this
/-- a chain against nil -/
theorem ch_eql {v : Value} {b : Bool} (h : ∃ ao n c, v = .slice ao n c ∧ ao.isNone = b) (w : World) : (binOp .eql 23 v (.slice none 0 0)).run Tryd.prog w = .ok (.bool b) w := by
  obtain ⟨ao, n, c, rfl, rfl⟩ := h
  exact Lib.run_eql_slice_nil w 23 9 ao n c 0 0 Tryd.ulStrs
theorem nodup_inj {α β : Type} {f : α → β} {l : List α} (h : (l.map f).Nodup) {a b : α} (ha : a ∈ l) (hb : b ∈ l) (he : f a = f b) : a = b := by
  induction l with
  | nil => cases ha
  | cons x l ih =>
    rw [List.map_cons, List.nodup_cons] at h
    rcases List.mem_cons.1 ha with e1 | ha
    · rcases List.mem_cons.1 hb with e2 | hb
      · rw [e1, e2]
      · exact absurd (List.mem_map.2 ⟨b, hb, by rw [← he, e1]⟩) h.1
    · rcases List.mem_cons.1 hb with e2 | hb
      · exact absurd (List.mem_map.2 ⟨a, ha, by rw [he, e2]⟩) h.1
      · exact ih h.2 ha hb
def mixF (f g : Nat → List ByteArray) (lv : List Nat) : Nat → List ByteArray := fun t => if f t = [] ∧ t ∈ lv then g t else f t
/-- a chain that is made now -/
def OwnS (w wx : World) (v : Value) (l : List ByteArray) : Prop := ∃ bo cap, v = .slice (some ⟨bo, 0, none⟩) l.length cap ∧ SlV wx (some ⟨bo, 0, none⟩) (strsV l) ∧ w.heap.size ≤ bo ∧ bo < wx.heap.size ∧ Below w.heap.size w wx
theorem OwnS.of {w w6 : World} {fj : List ByteArray} {idt : ByteArray} {g6 cap6 B : Nat} (hown : w6.ownsRow B 9 1 (.slice (some ⟨g6, 0, none⟩) ((strsV fj).length + 1) cap6) ((strsV fj).length + 1) (strsV fj ++ [.string idt])) (hB : w.heap.size ≤ B) (hb : Below w.heap.size w w6) :
    OwnS w w6 (.slice (some ⟨g6, 0, none⟩) ((strsV fj).length + 1) cap6) (fj ++ [idt]) := by
  have e1 : strsV (fj ++ [idt]) = strsV fj ++ [.string idt] := by simp [strsV]
  have e2 : (strsV fj).length + 1 = (fj ++ [idt]).length := by simp [strsV]
  have e3 : (strsV fj).length + 1 = (strsV fj ++ [Value.string idt]).length := by simp
  have hlt := hown.lt g6 rfl
  have hown' := hown
  rw [e3] at hown'
  obtain ⟨ao, cap, h1, h2, _⟩ := row_slv hown'
  injection h1 with h1 _ _
  subst h1
  rw [e2]
  exact ⟨g6, cap6, rfl, by rw [e1]; exact h2, by omega, hlt.2, hb⟩
set_option maxHeartbeats 4000000 in
set_option maxRecDepth 100000 in
theorem bec_any (ao : Option Addr) (cap : Nat) (L : List Ent) (id : ByteArray) (w : World) (hE : Ents w ao L) (hS : Small L) : Calls Tryd.prog 12 #[.slice ao L.length cap, .string id] w (BecPost L id w) := by
  have HR := hid (read_any ao cap L w hE hS)
  have hS1 := hS.1
  generalize hn : L.length = n at *
  have HN := hid hn
  clear hn
  cases hv : validB L with
  | false =>
    unfold ReadPost at HR
    rw [hv] at HR
    have HV := hid hv
    clear hv
    go_enter Tryd.func12, Tryd.ntmps12
    go_wp2_with fail
    refine HR.out.mono ?_
    rintro e w1 ⟨mb, F, rfl, -, hB⟩
    go_wp2_with fail
    go_ret2
    exact BecPost.none (.inl ⟨HV.out, rfl, rfl⟩) rfl rfl (hB.trans ((below_alloc w1 _).mono hB.size))
  | true =>
  have hVL := validB_iff.1 hv
  have hn1 : n ≤ 1000 := by have := hVL.1; rw [HN.out] at this; exact this
  have HF := hid hVL.2.1
  have HV := hid hv
  unfold ReadPost at HR
  rw [hv] at HR
  clear hVL hv
  go_enter Tryd.func12, Tryd.ntmps12
  go_wp2_with fail
  refine HR.out.mono ?_
  rintro e w1 ⟨mb, F, rfl, hGr, hB⟩
  replace hGr := hGr trivial
  clear HR
  go_upto_region 2 with fail
  obtain ⟨w2, hw2, hG, hBa⟩ := gr_world w1 mb F n
  rw [hw2]
  clear hw2
  replace hGr := hGr.below hBa
  replace hB := hB.trans (hBa.mono hB.size)
  have hg6 := hG.lt
  clear hBa
  generalize w1.heap.size = b6 at *
  have g0 := hG.cell 0
  simp only [List.getElem?_cons_zero] at g0
  have hlk := hGr.map.run_look strKey Tryd.ulMap Tryd.ulStr (Tryd.hv_int _) id true
  simp only [if_true] at hlk
  rcases lk_at L L.length id with ⟨q1, q2⟩ | ⟨te, q1, q2, q3⟩
  · rw [q1] at hlk
    simp only [Option.getD_none, Option.isSome_none] at hlk
    have HNO := hid (bec_none HV.out (id := id) (fun q => q2 (by rw [List.take_of_length_le (by rw [ids_len]; omega)]; exact q)))
    clear q1 q2
    go_wp2_with fail
    go_ret2
    exact BecPost.none HNO.out rfl rfl hB
  rw [q3] at hlk
  simp only [Option.getD_some, Option.isSome_some] at hlk
  obtain ⟨en, hen⟩ : ∃ e, L[te]? = some e := ⟨_, List.getElem?_eq_getElem q1⟩
  have hid' : en.id = id := by rw [ids_get hen] at q2; exact Option.some.inj q2
  have HEN := hid hen
  have HID := hid hid'
  have hte : te < n := by have := HN.out; omega
  clear q1 q2 q3 hen hid'
  go_upto_region 9 with (refine wpl_make rfl _ _ 54 rfl _ _ _ Tryd.ulChs Tryd.inStrs rfl _ _ n rfl rfl (by omega) (by omega) (by omega) (by unfold maxLen; omega) ?_; intro w3 CH hC0 hC1 hCH hg3)
  clear hlk g0
  have hGl := hG.lt
  have hG3 := hG.grown hg3 (by simp)
  have hB23 : Below w2.heap.size w2 w3 := (Below.refl _ w2).grown hg3 (Nat.le_refl _) (fun k hk => by cases hk)
  replace hGr := hGr.below hB23
  replace hB := hB.trans (hB23.mono hB.size)
  have hCs := Cs.start hCH (fun b => (Value.slice none 0 0).ownBlock = some b)
  have hb6C : b6 < CH := by omega
  clear hCH hg3 hB23 hG hg6 hGl
  go_wp2_with fail
  go_loopw [10, 44] (fun s10 s44 wr => ∃ (i : Nat) (f : Nat → List ByteArray) (lv : List Nat), s44 = .int .i64 i ∧ i ≤ n ∧ Cs wr CH n f (fun b => s10.ownBlock = some b) ∧ wr.ownsRow (CH + 1) 3 1 s10 (natsV lv).length (natsV lv) ∧ lv.length ≤ i ∧
    Hid (∀ (t : Nat) (e : Ent), L[t]? = some e → f t = if t < i ∧ e.cs = [] then [e.id] else []) ∧ Hid (∀ t, t ∈ lv ↔ t < n ∧ f t ≠ []) ∧ Hid (∀ t, n ≤ t → f t = []) ∧
    Blk wr b6 50 [.map (some mb), .slice (some ⟨F, 0, none⟩) n n] ∧ Gr wr L mb F w.heap.size b6 ∧ Below w.heap.size w wr) (fun _ s44 _ => n - (intOf s44).toNat)
  case atStart =>
    exact ⟨0, fun _ => [], [], rfl, by omega, hCs, World.ownsRow_nil _ _ _ _, by simp, hid (fun t e _ => by simp), hid (by simp), hid (fun _ _ => rfl), hG3, hGr, hB⟩
  case round =>
    clear hCs hG3 hGr hB
    obtain ⟨i, f, lv, rfl, hi, hCs, hlv, hll, HFP, HLV, HFN, hG, hGr, hB⟩ := hrel
    by_cases hin : i < n
    · obtain ⟨e, he⟩ : ∃ t, L[i]? = some t := ⟨_, List.getElem?_eq_getElem (by rw [HN.out]; omega)⟩
      obtain ⟨b, off, ea, hb, a0, a1⟩ := (hE.below hB).at he
      subst ea
      have HEI := hid he
      have hfi0 := HFP.out i e he
      rw [if_neg (by omega)] at hfi0
      have HFI := hid hfi0
      clear he hb hfi0
      obtain ⟨eid, eao, ecs, ecap⟩ := e
      simp only at a0 a1
      generalize hcl : ecs.length = cl at *
      have HCL := hid hcl
      clear hcl
      go_upto_region 12 with fail
      obtain ⟨w5, hw5, hX, hBa⟩ : ∃ W : World, wr.alloc (.cells #[.string eid, .slice eao cl ecap] 31) = W ∧ Blk W wr.heap.size 31 [.string eid, .slice eao cl ecap] ∧ Below wr.heap.size wr W := ⟨_, rfl, Blk.new wr _ _, below_alloc wr _⟩
      rw [hw5]
      clear hw5 a0 a1
      have hcC := hCs.lt
      have hxC : CH ≠ wr.heap.size := by omega
      have hlvx : u10.ownBlock ≠ some wr.heap.size := fun q => by have := (hlv.lt _ q).2; omega
      replace hCs := hCs.below hBa
      replace hlv := ownsRow_chg hlv ((Chg.refl (fun _ => False) wr).below hBa (fun k a b => by omega)) (fun _ _ q => q)
      replace hG := hG.below hBa hG.lt
      replace hGr := hGr.below hBa
      replace hB := hB.trans (hBa.mono hB.size)
      clear hBa hcC
      generalize wr.heap.size = xb at *
      have x0 := hX.cell 0
      have x1 := hX.cell 1
      simp only [List.getElem?_cons_succ, List.getElem?_cons_zero] at x0 x1
      by_cases hc0 : cl = 0
      · have hcs0 : ecs = [] := List.eq_nil_of_length_eq_zero (by rw [HCL.out, hc0])
        have hc0b : ((cl : Int) == 0) = true := by simp [hc0]
        obtain ⟨v0, cv, fv, hv0⟩ := hCs.get hin
        have hinI : (i : Int) < (n : Int) := by omega
        have hnC := World.new_ne w5 _ cv
        clear hc0
        have hBs := below_alloc w5 (.cells #[.string eid] 9)
        have hCs1 := hCs.below hBs
        have cv1 : (w5.alloc (.cells #[.string eid] 9)).cell? ⟨CH, i, none⟩ = some v0 := (hBs.cell (p := ⟨CH, i, none⟩) hCs.lt).trans cv
        have fv1 : (w5.alloc (.cells #[.string eid] 9)).frozen? ⟨CH, i, none⟩ = false := (hBs.frozen (p := ⟨CH, i, none⟩) hCs.lt).trans fv
        have hsn := Blk.new w5 #[.string eid] 9
        have hsl : SlV (w5.alloc (.cells #[.string eid] 9)) (some ⟨w5.heap.size, 0, none⟩) (strsV [eid]) := ⟨by simp [strsV, maxLen], fun j x hj => ⟨_, _, rfl, hsn.lt, by rw [hsn.cell, Nat.zero_add]; exact hj⟩⟩
        have hput := hCs1.put hin (v := .slice (some ⟨w5.heap.size, 0, none⟩) 1 1) (l := [eid]) (.inr ⟨by simp, _, _, 1, rfl, hsl, hnC, fun q => by have := (hlv.lt _ q).2; omega, hsn.lt⟩)
        have hcS : Chg (fun q => q = CH) w5 ((w5.alloc (.cells #[.string eid] 9)).setCell ⟨CH, i, none⟩ (.slice (some ⟨w5.heap.size, 0, none⟩) 1 1)) := ((Chg.refl (fun q => q = CH) w5).alloc _).set (p := ⟨CH, i, none⟩) rfl _
        have hlv1 := ownsRow_chg hlv hcS (fun k hk => by have := (hlv.lt k hk).1; omega)
        have hG1 := hG.chg hcS (by omega)
        have hGr1 := hGr.chg hcS (fun k _ h2 => by omega)
        have hB1 := hB.trans (hcS.toBelow hB.size (fun k hk => by have := hGr.hmb; omega))
        clear hBs hCs1 hsn hsl hcS hv0
        have HX := hid hX
        clear hCs hlv hG hGr hB hX
        go_upto_region 14 with fail
        clear cv fv cv1 fv1 x0 x1
        generalize (w5.alloc (.cells #[.string eid] 9)).setCell ⟨CH, i, none⟩ (.slice (some ⟨w5.heap.size, 0, none⟩) 1 1) = w6 at *
        have hl1 : (natsV lv).length + 1 ≤ maxLen := by rw [natsV_len]; unfold maxLen; omega
        have hl2 : ((natsV lv).length + 1) * 8 ≤ 140737488355328 := by rw [natsV_len]; omega
        have hcl := hput.lt
        have hm : Mine (CH + 1) w6 w6 3 u10 (natsV lv) := ⟨hlv1, Below.refl _ _, by omega⟩
        go_wp2_with (at_builtin; refine wpl_app1 rfl _ _ 55 rfl 3 _ _ Tryd.ulInt1 Tryd.inInt1 rfl _ _ _ _ hm rfl _ rfl rfl hl1 hl2 ?_; intro g1 cap1 w7 hm1 hg1 hB7 hat1)
        go_roundw
        case rel =>
          have hc7 : Chg (fun q => u10.ownBlock = some q) w6 w7 := (Chg.refl _ w6).grown hg1 (fun k hk => hk)
          have hlvb : ∀ q, u10.ownBlock = some q → CH + 1 ≤ q := fun q hq => (hlv1.lt q hq).1
          refine ⟨i + 1, upd f i [eid], lv ++ [i], by go_num, by omega, ?_, ?_, by simp; omega, hid ?_, hid ?_, hid ?_, hG1.chg hc7 (fun q => by have := hlvb _ q; omega), hGr1.chg hc7 (fun k _ h2 q => by have := hlvb _ q; omega), hB1.trans (hc7.toBelow hB1.size (fun k hk => by have := hlvb _ hk; have := hGr1.hmb; omega))⟩
          · refine hput.step hc7 (fun q => by have := hlvb _ q; omega) (fun b _ q => q) (fun b hb q => ?_)
            simp only [Value.ownBlock, Option.some.injEq] at q
            subst q
            rcases hat1 with h | h
            · exact h
            · omega
          · have := hm1.own
            rw [show natsV (lv ++ [i]) = natsV lv ++ [.int .i64 (i : Nat)] by simp [natsV]]
            exact this
          · intro t e he
            unfold upd
            by_cases q : t = i
            · subst q
              rw [HEI.out] at he
              cases he
              rw [if_pos rfl, if_pos ⟨by omega, hcs0⟩]
            · rw [if_neg q, HFP.out t e he]
              by_cases h : t < i ∧ e.cs = []
              · rw [if_pos h, if_pos ⟨by omega, h.2⟩]
              · rw [if_neg h, if_neg (fun h' => h ⟨by omega, h'.2⟩)]
          · intro t
            unfold upd
            rw [List.mem_append, List.mem_singleton, HLV.out]
            by_cases q : t = i
            · subst q; simp [hin]
            · simp [q]
          · intro t ht
            unfold upd
            rw [if_neg (by omega)]
            exact HFN.out t ht
        case measure => simp [intOf]; omega
      · have hc0b : ((cl : Int) == 0) = false := by rw [beq_eq_false_iff_ne]; omega
        have HFP' : Hid (∀ (t : Nat) (e : Ent), L[t]? = some e → f t = if t < i + 1 ∧ e.cs = [] then [e.id] else []) := by
          intro t e he
          rw [HFP.out t e he]
          by_cases q : t = i
          · subst q
            rw [HEI.out] at he
            cases he
            rw [if_neg (by omega), if_neg]
            rintro ⟨_, h⟩
            have hl0 : ecs.length = 0 := by rw [show ecs = [] from h]; rfl
            have := HCL.out
            omega
          · by_cases h : t < i ∧ e.cs = []
            · rw [if_pos h, if_pos ⟨by omega, h.2⟩]
            · rw [if_neg h, if_neg (fun h' => h ⟨by omega, h'.2⟩)]
        clear HFP
        go_wp2_with fail
        go_roundw
        case rel => exact ⟨i + 1, f, lv, by go_num, by omega, hCs, hlv, by omega, HFP', HLV, HFN, hG, hGr, hB⟩
        case measure => simp [intOf]; omega
    · obtain rfl : i = n := by omega
      have hLev := Lev.start (L := L) (f := f) (lv := lv) HF.out (fun t e he => by
        rw [HFP.out t e he]
        have : t < i := by have := (List.getElem?_eq_some_iff.1 he).1; have := HN.out; omega
        by_cases h : e.cs = []
        · rw [if_pos h, if_pos ⟨this, h⟩]
        · rw [if_neg h, if_neg (fun q => h q.2)]) (by rw [HN.out]; exact HLV.out)
      have hlen1 : ∀ t, (f t).length ≤ 1 := by
        intro t
        by_cases h : t < i
        · obtain ⟨e, he⟩ : ∃ e, L[t]? = some e := ⟨_, List.getElem?_eq_getElem (by rw [HN.out]; omega)⟩
          rw [HFP.out t e he]
          split <;> simp
        · rw [HFN.out t (by omega)]; simp
      obtain ⟨lo, lc, rfl, hlsl, _⟩ := row_slv hlv
      rw [natsV_len] at *
      have HLEV := hid hLev
      have HL1 := hid hlen1
      replace hCs := hCs.more (M' := fun _ => False) (fun _ _ q => q.elim)
      clear hLev hlen1 HFP HLV hlv hin
      go_wp2_with fail
      go_loopg [10] (2 * i + 1) (fun gk s10 wr => ∃ (f : Nat → List ByteArray) (lv : List Nat) (lo : Option Addr) (lc : Nat), s10 = .slice lo lv.length lc ∧ SlV wr lo (natsV lv) ∧ lv.length ≤ i ∧ Cs wr CH i f (fun _ => False) ∧ Hid (Lev L f lv) ∧ Hid (∀ t, (f t).length + gk ≤ 2 * i + 2) ∧ Hid (∀ t, i ≤ t → f t = []) ∧
        Hid (2 * unk f i + (if lv = [] then 0 else 1) ≤ gk) ∧ Blk wr b6 50 [.map (some mb), .slice (some ⟨F, 0, none⟩) i i] ∧ Gr wr L mb F w.heap.size b6 ∧ Below w.heap.size w wr)
      case atStart => exact ⟨f, lv, lo, lc, rfl, hlsl, hll, hCs, HLEV, hid (fun t => by have := HL1.out t; omega), HFN, hid (by have := unk_all f i; split <;> omega), hG, hGr, hB⟩
      case round =>
        clear hlsl hCs hG hGr hB HLEV HL1 HFN hll
        obtain ⟨f, lv, lo, lc, rfl, hlsl, hlvl, hCs, HLEV, HLEN, HFN, HGK, hG, hGr, hB⟩ := hrel
        have hteI : (te : Int) < (i : Int) := by omega
        obtain ⟨vt, ct, _, hvt⟩ := hCs.get hte
        by_cases hft : f te = []
        · have hvt' : vt = .slice none 0 0 := by
            rcases hvt with ⟨_, h⟩ | ⟨h, _⟩
            · exact h
            · exact absurd hft h
          subst hvt'
          have hce := ch_eql ⟨none, 0, 0, rfl, rfl⟩
          have HFT := hid hft
          clear hft hvt
          by_cases hlv0 : lv = []
          · have hbn := Lev.no HV.out HF.out (hlv0 ▸ HLEV.out) HEN.out HFT.out
            rw [HID.out] at hbn
            have HBN := hid hbn
            subst hlv0
            simp only [List.length_nil]
            clear hbn hlsl hCs hG hGr HGK HLEN HFN
            go_wp2_with fail
            go_ret2
            exact BecPost.none HBN.out rfl rfl hB
          · have hl0 : 0 < lv.length := by
              rcases Nat.eq_zero_or_pos lv.length with h | h
              · exact absurd (List.eq_nil_of_length_eq_zero h) hlv0
              · exact h
            have hl0I : (0 : Int) < (lv.length : Int) := by omega
            have HLV0 := hid hlv0
            obtain ⟨lb, lof, rfl, hlb⟩ : ∃ b off, lo = some ⟨b, off, none⟩ ∧ b < wr.heap.size := by
              obtain ⟨x, hx⟩ : ∃ x, (natsV lv)[0]? = some x := ⟨_, List.getElem?_eq_getElem (by rw [natsV_len]; omega)⟩
              obtain ⟨b, off, e1, e2, _⟩ := hlsl.cell 0 x hx
              exact ⟨b, off, e1, e2⟩
            have hmm := @run_makeMap Tryd.prog
            obtain ⟨wo, hwo⟩ : ∃ wo : World, wo = wr := ⟨_, rfl⟩
            subst hwo
            clear hlv0
            go_upto_region 18 with fail
            clear hmm ct hce
            have hM := MapIs.new wo intV
            have hBa := below_alloc wo (.map #[] 0)
            have hcC := hCs.lt
            have hGb := hG.lt
            replace hCs := hCs.step (M' := fun b => b = wo.heap.size) ((Chg.refl (fun _ => False) wo).alloc (.map #[] 0)) (fun q => q) (fun _ _ q => q) (fun b hb q => by omega)
            replace hlsl := hlsl.below hBa
            replace hG := hG.below hBa hG.lt
            replace hGr := hGr.below hBa
            replace hB := hB.trans (hBa.mono hB.size)
            have hFd := Fd.start (wo.alloc (.map #[] 0)) CH i (fun b => b = wo.heap.size)
            have hmC : wo.heap.size ≠ CH := by omega
            have hmG : wo.heap.size ≠ b6 := by omega
            have hml : lb ≠ wo.heap.size := by omega
            have hmb6 : b6 < wo.heap.size := hGb
            have hmw : w.heap.size ≤ wo.heap.size := by have := hGr.hmb; omega
            have hBest := Best.start L f
            clear hBa hcC hlb hGb
            generalize hwm : wo.alloc (.map #[] 0) = wm at *
            clear hwm
            generalize wo.heap.size = mf at *
            have hBest0 : Best L f (fun j t => j ∈ lv.take 0 ∧ t ∈ eff L L.length (idAt L j)) (fun _ => []) := hBest.congr (fun j t => by simp)
            clear hBest
            go_wp2_with fail
            go_loopw [77] (fun s77 wl => ∃ (a : Nat) (m : List (Int × Value)) (g : Nat → List ByteArray), s77 = .int .i64 a ∧ a ≤ lv.length ∧ MapIs wl mf intV m ∧ Fd wl CH i m g (fun b => b = mf) ∧ Cs wl CH i f (fun b => b = mf) ∧ Hid (Best L f (fun j t => j ∈ lv.take a ∧ t ∈ eff L L.length (idAt L j)) g) ∧
              SlV wl (some ⟨lb, lof, none⟩) (natsV lv) ∧ Blk wl b6 50 [.map (some mb), .slice (some ⟨F, 0, none⟩) i i] ∧ Gr wl L mb F w.heap.size b6 ∧ Below w.heap.size w wl) (fun s77 _ => lv.length - (intOf s77).toNat)
            case atStart => exact ⟨0, [], _, rfl, by omega, hM, hFd, hCs, hid hBest0, hlsl, hG, hGr, hB⟩
            case round =>
              clear hM hFd hCs hBest0 hlsl hG hGr hB
              obtain ⟨a, m, g, rfl, ha, hM, hFd, hCs, HBEST, hlsl, hG, hGr, hB⟩ := hrel
              by_cases hal : a < lv.length
              · obtain ⟨j, hj⟩ : ∃ x, lv[a]? = some x := ⟨_, List.getElem?_eq_getElem hal⟩
                obtain ⟨_, _, e1, _, cl⟩ := hlsl.cell a (.int .i64 (j : Nat)) (by unfold natsV; rw [List.getElem?_map, hj]; rfl)
                cases e1
                obtain ⟨hjn, hfj⟩ := HLEV.out.new j (List.mem_of_getElem? hj)
                rw [HN.out] at hjn
                obtain ⟨ej, hej⟩ : ∃ e, L[j]? = some e := ⟨_, List.getElem?_eq_getElem (by rw [HN.out]; omega)⟩
                obtain ⟨ra, rc, cF, hrow, hrb⟩ := hGr.row j ej hej
                have hLT : Hid (lv.take (a + 1) = lv.take a ++ [j]) := by unfold Hid; rw [List.take_add_one, hj]; rfl
                have hidj : idAt L j = ej.id := idAt_is hej
                rw [← hidj] at cF hrow
                have hrl := eff_len L L.length (idAt L j)
                obtain ⟨row, hrw⟩ : ∃ r, eff L L.length (idAt L j) = r := ⟨_, rfl⟩
                have HROW := hid hrw
                rw [hrw] at cF hrow hrl
                rw [HN.out] at hrl
                have HFJ := hid hfj
                have g1 := hG.cell 1
                simp only [List.getElem?_cons_succ, List.getElem?_cons_zero] at g1
                have hjI : (j : Int) < (i : Int) := by omega
                have haI : (a : Int) < (lv.length : Int) := by omega
                obtain ⟨wi0, hwi0⟩ : ∃ wo : World, wo = wr := ⟨_, rfl⟩
                subst hwi0
                clear hj hfj hej hidj hrw
                go_wp2_with fail
                go_loopw [87] (fun s87 wi => ∃ (c : Nat) (m : List (Int × Value)) (g : Nat → List ByteArray), s87 = .int .i64 c ∧ c ≤ row.length ∧ MapIs wi mf intV m ∧ Fd wi CH i m g (fun b => b = mf) ∧ Cs wi CH i f (fun b => b = mf) ∧ Hid (Best L f (fun j' t => (j' ∈ lv.take a ∧ t ∈ eff L L.length (idAt L j')) ∨ (j' = j ∧ t ∈ row.take c)) g) ∧
                  SlV wi (some ⟨lb, lof, none⟩) (natsV lv) ∧ SlV wi ra (natsV row) ∧ Blk wi b6 50 [.map (some mb), .slice (some ⟨F, 0, none⟩) i i] ∧ Gr wi L mb F w.heap.size b6 ∧ Below w.heap.size w wi) (fun s87 _ => row.length - (intOf s87).toNat)
                case atStart => exact ⟨0, m, g, rfl, by omega, hM, hFd, hCs, hid (HBEST.out.congr (fun j' t => by simp)), hlsl, hrow, hG, hGr, hB⟩
                case round =>
                  clear hM hFd hCs HBEST hlsl hrow hG hGr hB g1 cl cF
                  obtain ⟨c, m, g, rfl, hc, hM, hFd, hCs, HBEST, hlsl, hrow, hG, hGr, hB⟩ := hrel
                  by_cases hcr : c < row.length
                  · obtain ⟨t, ht⟩ : ∃ x, row[c]? = some x := ⟨_, List.getElem?_eq_getElem hcr⟩
                    obtain ⟨rb, ro, e1, _, ct⟩ := hrow.cell c (.int .i64 (t : Nat)) (by unfold natsV; rw [List.getElem?_map, ht]; rfl)
                    subst e1
                    have htm : t ∈ eff L L.length (idAt L j) := by rw [HROW.out]; exact List.mem_of_getElem? ht
                    have hti := (eff_lt htm).1
                    rw [HN.out] at hti
                    have hRT : Hid (row.take (c + 1) = row.take c ++ [t]) := by unfold Hid; rw [List.take_add_one, ht]; rfl
                    have HD : Hid (∀ j' t', addD (fun j' t => (j' ∈ lv.take a ∧ t ∈ eff L L.length (idAt L j')) ∨ (j' = j ∧ t ∈ row.take c)) j t j' t' ↔ ((j' ∈ lv.take a ∧ t' ∈ eff L L.length (idAt L j')) ∨ (j' = j ∧ t' ∈ row.take (c + 1)))) := by
                      intro j' t'
                      unfold addD
                      rw [hRT.out, List.mem_append, List.mem_singleton]
                      constructor
                      · rintro ((h | ⟨h1, h2⟩) | ⟨h1, h2⟩)
                        · exact .inl h
                        · exact .inr ⟨h1, .inl h2⟩
                        · exact .inr ⟨h1, .inr h2⟩
                      · rintro (h | ⟨h1, h2 | h2⟩)
                        · exact .inl (.inl h)
                        · exact .inl (.inr ⟨h1, h2⟩)
                        · exact .inr ⟨h1, h2⟩
                    have htI : (t : Int) < (i : Int) := by omega
                    have hcI : (c : Int) < (row.length : Int) := by omega
                    obtain ⟨vk, ck, _, hvk⟩ := hCs.get hti
                    clear ht htm
                    by_cases hft2 : f t = []
                    · have hvk' : vk = .slice none 0 0 := by
                        rcases hvk with ⟨_, h⟩ | ⟨h, _⟩
                        · exact h
                        · exact absurd hft2 h
                      subst hvk'
                      have hce2 := fun w => run_neq_slice_nil_any (P := Tryd.prog) w 23 9 none 0 0 0 0 Tryd.ulStrs
                      have HFT2 := hid hft2
                      clear hft2 hvk
                      obtain ⟨vj, cj, _, hvj⟩ := hCs.get hjn
                      obtain ⟨bj, oj, cpj, rfl, hsj⟩ : ∃ b off cap, vj = .slice (some ⟨b, off, none⟩) (f j).length cap ∧ SlV wr (some ⟨b, off, none⟩) (strsV (f j)) := by
                        rcases hvj with ⟨h, _⟩ | ⟨_, b, off, cap, h1, h2, _⟩
                        · exact absurd h HFJ.out
                        · exact ⟨b, off, cap, h1, h2⟩
                      obtain ⟨et, het⟩ : ∃ e, L[t]? = some e := ⟨_, List.getElem?_eq_getElem (by rw [HN.out]; omega)⟩
                      obtain ⟨b0, o0, ea0, hb0, ci, _⟩ := (hE.below hB).at het
                      subst ea0
                      have hidt : idAt L t = et.id := idAt_is het
                      rw [← hidt] at ci
                      have hlj := HLEN.out j
                      obtain ⟨idt, hidt'⟩ : ∃ x, idAt L t = x := ⟨_, rfl⟩
                      rw [hidt'] at ci
                      have HIDT := hid hidt'
                      obtain ⟨fj, hfj'⟩ : ∃ x, f j = x := ⟨_, rfl⟩
                      rw [hfj'] at cj hsj hlj
                      have HFJ' := hid (show fj ≠ [] from hfj' ▸ HFJ.out)
                      have HFJE := hid hfj'
                      clear hidt hidt' hfj' hvj het
                      go_upto_region 25 with fail
                      go_cut [18] from 96 to 107 (fun s18 wx => OwnS wr wx s18 (fj ++ [idt]))
                      case first =>
                        have cj1 : (wr.alloc (.cells #[.string idt] 9)).cell? ⟨CH, j, none⟩ = some (.slice (some ⟨bj, oj, none⟩) fj.length cpj) := ((below_alloc wr _).cell (p := ⟨CH, j, none⟩) hCs.lt).trans cj
                        clear ck hce2 ct hM hFd hCs hlsl hrow hG hGr
                        have hbj : bj < wr.heap.size := by
                          obtain ⟨x, hx⟩ : ∃ x, (strsV fj)[0]? = some x := ⟨_, List.getElem?_eq_getElem (by unfold strsV; rw [List.length_map]; exact List.length_pos_iff.2 HFJ'.out)⟩
                          obtain ⟨b, off, e1, e2, _⟩ := hsj.cell 0 x hx
                          cases e1; exact e2
                        have HSJ := hid hsj
                        have hljb : fj.length ≤ 3000 := by omega
                        clear hsj hlj
                        have hnC := World.new_ne wr _ cj
                        have hnI := World.new_ne wr _ ci
                        obtain ⟨i9, hi9, hz9, hs9, hb9⟩ := info_parts Tryd.inStr
                        have ho1 : ∀ u ∈ [Value.string idt], u.oneCell' = true := by intro u hu; simp at hu; subst hu; rfl
                        have hl1 : (strsV fj).length + 1 ≤ maxLen := by unfold strsV maxLen; rw [List.length_map]; omega
                        have hl2 : ((strsV fj).length + 1) * 16 ≤ 140737488355328 := by unfold strsV; rw [List.length_map]; omega
                        go_region_law
                          (first
                            | (refine step_callE wr.drew (by rfl) 28 #[.slice (some ⟨bj, oj, none⟩) fj.length cpj] _ ?_ ?_ (clone_any _ _ _ _ (HSJ.out.below ((Below.refl _ wr).drew)) HFJ'.out (by omega)) ?_; (with_reducible rfl); kernel_rfl; intro v5 w5 hm5; have hB5 := undrew hm5.below; have ci5 := (hB5.cell (p := ⟨b0, o0 + t * 2, none⟩) hb0).trans ci; have hown5 := hm5.own.alloc (.cells #[.string idt] 9); have hbs5 : wr.heap.size ≤ (w5.alloc (.cells #[.string idt] 9)).heap.size := (by have := hB5.size; rw [World.size_alloc]; omega); have hsz5 : (w5.alloc (.cells #[.string idt] 9)).heap.size = w5.heap.size + 1 := World.size_alloc _ _; have hnews5 : ∀ q u, [Value.string idt][q]? = some u → (w5.alloc (.cells #[.string idt] 9)).cell? ((⟨w5.heap.size, 0, none⟩ : Addr).add q) = some u := World.news_of_block (heap_alloc_new w5 _))
                            | (refine step_callE (wr.alloc (.cells #[.string idt] 9)).drew (by rfl) 28 #[.slice (some ⟨bj, oj, none⟩) fj.length cpj] _ ?_ ?_ (clone_any _ _ _ _ ((HSJ.out.below (below_alloc wr _)).below ((Below.refl _ _).drew)) HFJ'.out (by omega)) ?_; (with_reducible rfl); kernel_rfl; intro v5 w5 hm5; have hB5 := undrew hm5.below; have hB6 := unalloc hB5; have hown5 := hm5.own; have hbs5 : (wr.alloc (.cells #[.string idt] 9)).heap.size ≤ w5.heap.size := hB5.size; have hnews5 : ∀ q u, [Value.string idt][q]? = some u → w5.cell? ((⟨wr.heap.size, 0, none⟩ : Addr).add q) = some u := fun q u h => (hB5.cell (by rw [addr_add]; simp)).trans (World.news_of_block (heap_alloc_new wr _) q u h))
                            | (refine step_append_lies _ (by rfl) _ _ 23 (by rfl) wr.heap.size 9 i9 _ 1 16 Tryd.ulStrs hi9 hz9 hs9 hb9 (by decide) (by decide) v5 (strsV fj).length (strsV fj) (by rfl) hown5 ⟨w5.heap.size, 0, none⟩ 1 1 [.string idt] (by rfl) rfl hnews5 ho1 (by decide) hl1 hl2 hbs5 (w5.heap.size + 1) hsz5 ?_; intro g6 cap6 w6 hown6 hgrow6 hat6 hlt6)
                            | (refine step_append_lies _ (by rfl) _ _ 23 (by rfl) (wr.alloc (.cells #[.string idt] 9)).heap.size 9 i9 _ 1 16 Tryd.ulStrs hi9 hz9 hs9 hb9 (by decide) (by decide) v5 (strsV fj).length (strsV fj) (by rfl) hown5 ⟨wr.heap.size, 0, none⟩ 1 1 [.string idt] (by rfl) rfl hnews5 ho1 (by decide) hl1 hl2 hbs5 _ rfl ?_; intro g6 cap6 w6 hown6 hgrow6 hat6 hlt6))
                        all_goals
                          have hvl : ∀ k, v5.ownBlock = some k → wr.heap.size ≤ k := fun k hk => (by have := (hm5.own.lt k hk).1; first | exact this | (rw [World.size_drew, World.size_alloc] at this; omega))
                          go_wp2_with fail
                          go_meet
                        all_goals first
                          | exact OwnS.of hown6 (by rw [World.size_alloc]; omega) (hB6.grown hgrow6 hB6.size hvl)
                          | exact OwnS.of hown6 (Nat.le_refl _) (((hB5.alloc hB5.size _).grown hgrow6 hbs5 hvl))
                      case rest =>
                        obtain ⟨bo, cpo, rfl, hos, hob, hol, hBo⟩ := hcut
                        have hmf := hM.lt
                        replace hM := hM.below hBo hM.lt
                        replace hFd := hFd.chg ((Chg.refl (fun _ => False) wr).below hBo (fun k a b => by omega)) (fun _ _ q => q.elim)
                        replace hCs := hCs.below hBo
                        replace hlsl := hlsl.below hBo
                        replace hrow := hrow.below hBo
                        replace hG := hG.below hBo hG.lt
                        replace hGr := hGr.below hBo
                        replace hB := hB.trans (hBo.mono hB.size)
                        have hoC : bo ≠ CH := by have := hCs.lt; have := World.block_lt_of_cell? wr _ cj; simp at this; omega
                        have hom : bo ≠ mf := by omega
                        clear hBo ck cj ci ct hce2 hob hmf
                        have hchv : ChV wc CH (fun b => b = mf) (.slice (some ⟨bo, 0, none⟩) (fj ++ [idt]).length cpo) (fj ++ [idt]) := .inr ⟨by simp, bo, 0, cpo, rfl, hos, hoC, hom, hol⟩
                        have hlk2 := hM.run_look intKey Tryd.ulFnd Tryd.ulInt0 (Tryd.hv_strs _) (t : Int) true
                        simp only [if_true] at hlk2
                        have hlo : (fj ++ [idt]).length = fj.length + 1 := by simp
                        have hownE : Hid (fj ++ [idt] = f j ++ [idAt L t]) := by unfold Hid; rw [HFJE.out, HIDT.out]
                        have hol2 : (fj ++ [idt]).length ≤ 100000 := by rw [hlo]; omega
                        have hone : fj ++ [idt] ≠ [] := by simp
                        clear hlo hlj hsj HFJ'
                        generalize fj ++ [idt] = own at *
                        have HONE := hid hone
                        clear hone
                        rcases hFd.get t hti with ⟨hg0, hl0'⟩ | ⟨hg0, v0, hl0', hv0⟩
                        · rw [hl0'] at hlk2
                          simp only [Option.getD_none, Option.isSome_none] at hlk2
                          have HB2 := hid ((HBEST.out.first (j := j) (t := t) (by rw [HN.out]; exact hti) HFT2.out hg0).congr HD.out)
                          rw [← hownE.out] at HB2
                          clear hg0 hl0' HBEST
                          go_wp2_with (refine wpl_mapset rfl _ _ _ 56 rfl intKey _ _ Tryd.ulFnd Tryd.ulInt0 mf _ rfl hM (t : Int) rfl ?_; intro w6 hM6 hg6)
                          replace hM6 : MapIs w6 mf intV (upM m (t : Int) (.slice (some ⟨bo, 0, none⟩) own.length cpo)) := hM6
                          have hcm : Chg (fun q => q = mf) wc w6 := (Chg.refl (fun q => q = mf) wc).grown hg6 (fun k hk => by cases hk; rfl)
                          go_roundw
                          case rel => exact ⟨c + 1, _, _, by go_num, by omega, hM6, (hFd.chg hcm (fun b _ q => .inr q)).put hti HONE.out (hchv.chg hcm (fun b _ _ q r => q r)), hCs.chg hcm hmC.symm (fun b _ q => q), HB2, hlsl.chg hcm (fun b off e _ q => by cases e; exact hml q), hrow.chg hcm (fun b off e _ q => by have := hrb b off e; omega), hG.chg hcm hmG.symm, hGr.chg hcm (fun k _ h2 q => by omega), hB.trans (hcm.toBelow hB.size (fun k hk => by omega))⟩
                          case measure => simp [intOf]; omega
                        · rw [hl0'] at hlk2
                          simp only [Option.getD_some, Option.isSome_some] at hlk2
                          have hgl : (g t).length ≤ 100000 := by
                            rcases HBEST.out t (by rw [HN.out]; exact hti) with h | ⟨_, h | ⟨_, j2, _, h, _⟩⟩
                            · exact absurd HFT2.out h.1
                            · exact absurd h.1 hg0
                            · rw [h, List.length_append]
                              have := HLEN.out j2
                              simp
                              omega
                          obtain ⟨bg, og, cpg, rfl, hsg⟩ : ∃ b off cap, v0 = .slice (some ⟨b, off, none⟩) (g t).length cap ∧ SlV wc (some ⟨b, off, none⟩) (strsV (g t)) := by
                            rcases hv0 with ⟨h, _⟩ | ⟨_, b, off, cap, h1, h2, _⟩
                            · exact absurd h hg0
                            · exact ⟨b, off, cap, h1, h2⟩
                          have HCP := hid (compare_any _ _ cpo cpg own (g t) wc hos hsg hol2 hgl)
                          have HG0 := hid hg0
                          by_cases hcmp : cmpCh own (g t) < 0
                          · have HB2 := hid ((HBEST.out.less (j := j) (t := t) (by rw [HN.out]; exact hti) HFT2.out hg0 (by rw [← hownE.out]; exact hcmp)).congr HD.out)
                            rw [← hownE.out] at HB2
                            generalize cmpCh own (g t) = cv at *
                            generalize (g t).length = gl at *
                            clear hg0 hl0' HBEST hos hsg hv0
                            go_wp2_with (first | (refine HCP.out.mono ?_; rintro en w' ⟨rfl, rfl⟩) | (refine wpl_mapset rfl _ _ _ 56 rfl intKey _ _ Tryd.ulFnd Tryd.ulInt0 mf _ rfl hM (t : Int) rfl ?_; intro w6 hM6 hg6))
                            replace hM6 : MapIs w6 mf intV (upM m (t : Int) (.slice (some ⟨bo, 0, none⟩) own.length cpo)) := hM6
                            have hcm : Chg (fun q => q = mf) wc w6 := (Chg.refl (fun q => q = mf) wc).grown hg6 (fun k hk => by cases hk; rfl)
                            go_roundw
                            case rel => exact ⟨c + 1, _, _, by go_num, by omega, hM6, (hFd.chg hcm (fun b _ q => .inr q)).put hti HONE.out (hchv.chg hcm (fun b _ _ q r => q r)), hCs.chg hcm hmC.symm (fun b _ q => q), HB2, hlsl.chg hcm (fun b off e _ q => by cases e; exact hml q), hrow.chg hcm (fun b off e _ q => by have := hrb b off e; omega), hG.chg hcm hmG.symm, hGr.chg hcm (fun k _ h2 q => by omega), hB.trans (hcm.toBelow hB.size (fun k hk => by omega))⟩
                            case measure => simp [intOf]; omega
                          · have HB2 := hid ((HBEST.out.keep (j := j) (t := t) HFT2.out hg0 (by rw [← hownE.out]; exact hcmp)).congr HD.out)
                            generalize cmpCh own (g t) = cv at *
                            generalize (g t).length = gl at *
                            clear hg0 hl0' HBEST hos hsg hv0
                            go_wp2_with (refine HCP.out.mono ?_; rintro en w' ⟨rfl, rfl⟩)
                            go_roundw
                            case rel => exact ⟨c + 1, m, g, by go_num, by omega, hM, hFd, hCs, HB2, hlsl, hrow, hG, hGr, hB⟩
                            case measure => simp [intOf]; omega
                    · obtain ⟨bk, ok, cpk, rfl⟩ : ∃ b off cap, vk = .slice (some ⟨b, off, none⟩) (f t).length cap := by
                        rcases hvk with ⟨h, _⟩ | ⟨_, b, off, cap, h1, _⟩
                        · exact absurd h hft2
                        · exact ⟨b, off, cap, h1⟩
                      have hce2 := fun w => run_neq_slice_nil_any (P := Tryd.prog) w 23 9 (some ⟨bk, ok, none⟩) (f t).length cpk 0 0 Tryd.ulStrs
                      have HB2 := hid ((HBEST.out.skip (j := j) (t := t) hft2).congr HD.out)
                      clear hft2 hvk HBEST
                      go_wp2_with fail
                      go_roundw
                      case rel => exact ⟨c + 1, m, g, by go_num, by omega, hM, hFd, hCs, HB2, hlsl, hrow, hG, hGr, hB⟩
                      case measure => simp [intOf]; omega
                  · have hce : row.take c = row := List.take_of_length_le (by omega)
                    have HB2 := hid (HBEST.out.congr (D' := fun j' t => j' ∈ lv.take (a + 1) ∧ t ∈ eff L L.length (idAt L j')) (fun j' t' => by
                      rw [hce, hLT.out, List.mem_append, List.mem_singleton]
                      constructor
                      · rintro (⟨h1, h2⟩ | ⟨h1, h2⟩)
                        · exact ⟨.inl h1, h2⟩
                        · rw [h1, HROW.out]; exact ⟨.inr rfl, h2⟩
                      · rintro ⟨h1 | h1, h2⟩
                        · exact .inl ⟨h1, h2⟩
                        · rw [h1, HROW.out] at h2; exact .inr ⟨h1, h2⟩))
                    clear hce HBEST
                    go_wp2_with fail
                    go_roundw
                    case rel => exact ⟨a + 1, m, g, by go_num, by omega, hM, hFd, hCs, HB2, hlsl, hG, hGr, hB⟩
                    case measure => simp [intOf]; omega
              · have hae : lv.take a = lv := List.take_of_length_le (by omega)
                have hB0 : Best L f (Pairs L lv) g := HBEST.out.congr (fun j t => by rw [hae]; exact Iff.rfl)
                have HBE := hid hB0
                clear hae hB0 HBEST
                obtain ⟨es, clk, hmb, hborn, hnd, hkv⟩ := hM.ex
                have hCl := hCs.lt
                have hgt0 : ∀ t, t < i → g t ≠ [] → f t = [] := fun t ht hg => by
                  rcases HBE.out t (by rw [HN.out]; exact ht) with h | h
                  · exact absurd h.2 hg
                  · exact h.1
                have HG0 := hid hgt0
                have HND := hid hnd
                have HKV := hid hkv
                clear hgt0 hkv
                go_upto_region 33 with (at_range; refine wpl_range rfl _ 56 rfl 3 23 Tryd.ulFnd mf clk es rfl hmb hborn ?_; intro w6 hI hB6; go_frame)
                have hfdlen : m.length ≤ i := by
                  have := nodup_le i (m.map Prod.fst) hFd.nd hFd.keys
                  rwa [List.length_map] at this
                have hesl : es.size ≤ i := by
                  have := congrArg List.length HKV.out
                  simp only [List.length_map, Array.length_toList] at this
                  omega
                have hmlt := hM.lt
                have HES := hid hesl
                clear hesl hfdlen hmb hborn
                have hrC : wr.heap.size ≠ CH := by omega
                have hrm : wr.heap.size ≠ mf := by omega
                have hrG : wr.heap.size ≠ b6 := by omega
                have hCm : mf ≠ CH := hmC
                have hwr0 : w.heap.size ≤ wr.heap.size := hB.size
                have hr6 := hI.lt
                replace hFd := hFd.step (M' := fun b => b = mf ∨ b = wr.heap.size ∨ (Value.slice none 0 0).ownBlock = some b) ((Chg.refl (fun _ => False) wr).below hB6 (fun k a b => by omega)) (fun _ _ q => q.elim) (fun b hb q => by rcases q with q | q | q; exact q; omega; cases q)
                have hCs0 := (hCs.step (M' := fun b => b = mf ∨ b = wr.heap.size ∨ (Value.slice none 0 0).ownBlock = some b) ((Chg.refl (fun _ => False) wr).below hB6 (fun k a b => by omega)) (fun q => q) (fun _ _ q => q.elim) (fun b hb q => by rcases q with q | q | q; exact q; omega; cases q)).congr (f' := mixF f g []) (fun t _ => by unfold mixF; rw [if_neg]; simp)
                replace hG := hG.below hB6 hG.lt
                replace hGr := hGr.below hB6
                replace hB := hB.trans (hB6.mono hB.size)
                have hbr : b6 < wr.heap.size := by omega
                have hCr : CH < wr.heap.size := hCl
                have hmr : mf < wr.heap.size := hmlt
                clear hB6 hlsl hCs hM hCl hmlt
                generalize wr.heap.size = rb at *
                have hl00 : (leftOf es #[]).size ≤ es.size := by unfold leftOf; exact Array.size_filter_le
                go_loopw [10] (fun s10 wq => ∃ (seen : Array Nat) (lv' : List Nat), Iter wq rb mf es seen ∧ Cs wq CH i (mixF f g lv') (fun b => b = mf ∨ b = rb ∨ s10.ownBlock = some b) ∧ Fd wq CH i m g (fun b => b = mf ∨ b = rb ∨ s10.ownBlock = some b) ∧ wq.ownsRow (rb + 1) 3 1 s10 (natsV lv').length (natsV lv') ∧
                  Hid (∀ t ∈ lv', t < i ∧ g t ≠ []) ∧ Hid (∀ e ∈ es.toList, seen.contains e.born = true → ∃ t ∈ lv', e.key = .int .i64 (t : Nat)) ∧ lv'.length + (leftOf es seen).size ≤ i ∧
                  Blk wq b6 50 [.map (some mb), .slice (some ⟨F, 0, none⟩) i i] ∧ Gr wq L mb F w.heap.size b6 ∧ Below w.heap.size w wq ∧ rb < wq.heap.size) (fun _ wq => wq.rangeLeft mf rb)
                case atStart => exact ⟨#[], [], hI, hCs0, hFd, World.ownsRow_nil _ _ _ _, hid (by simp), hid (fun e _ h => by simp at h), by have := HES.out; simp; omega, hG, hGr, hB, hr6⟩
                case round =>
                  clear hI hCs0 hFd hG hGr hB hr6
                  obtain ⟨seen, lv', hI, hCs, hFd, hlv, HL1, HL2, hll, hG, hGr, hB, hrl⟩ := hrel
                  obtain ⟨wk, hwk⟩ : ∃ wk : World, wk = wr := ⟨_, rfl⟩
                  subst hwk
                  have hlf := hI.left
                  have HLF := hid hlf
                  clear hlf
                  go_wp2_with (at_next; refine wpl_next rfl _ rfl rb mf es seen rfl hI HND.out ?_ ?_)
                  · intro h0
                    have hall := all_seen es seen (by rw [h0]; rfl)
                    have hlvI : ∀ t, t ∈ lv' ↔ t < i ∧ g t ≠ [] := fun t => by
                      refine ⟨HL1.out t, fun ⟨ht, hg⟩ => ?_⟩
                      rcases hFd.get t ht with ⟨h, _⟩ | ⟨_, v, h1, _⟩
                      · exact absurd h hg
                      · have h2 := List.mem_map.2 ⟨((t : Int), v), lk_some h1, (rfl : entM intV ((t : Int), v) = (intV (t : Int), v))⟩
                        rw [← HKV.out] at h2
                        obtain ⟨e, he, h3⟩ := List.mem_map.1 h2
                        obtain ⟨t', ht', h4⟩ := HL2.out e he (hall e he)
                        have h3' : (e.key, e.val) = (intV (t : Int), v) := h3
                        injection h3' with h31 h32
                        rw [h31] at h4
                        have : t = t' := by
                          have h5 : (t : Int) = (t' : Int) := by injection h4
                          omega
                        rw [this]; exact ht'
                    obtain ⟨g', hg'⟩ : ∃ g' : Nat → List ByteArray, g' = fun t => if t < i then g t else [] := ⟨_, rfl⟩
                    have hgi : ∀ t, t < i → g' t = g t := fun t ht => by rw [hg']; simp only [if_pos ht]
                    have hgo : ∀ t, i ≤ t → g' t = [] := fun t ht => by rw [hg']; simp only [if_neg (show ¬ t < i by omega)]
                    have hB' : Best L f (Pairs L lv) g' := fun t ht => by
                      have := HBE.out t ht
                      rw [hgi t (by rw [← HN.out]; exact ht)]
                      exact this
                    have hlvI' : ∀ t, t ∈ lv' ↔ t < L.length ∧ g' t ≠ [] := fun t => by
                      rw [hlvI t, HN.out]
                      constructor
                      · rintro ⟨h1, h2⟩; exact ⟨h1, by rw [hgi t h1]; exact h2⟩
                      · rintro ⟨h1, h2⟩; exact ⟨h1, by rw [hgi t h1] at h2; exact h2⟩
                    have HLEV2 := hid (HLEV.out.next HF.out hB' hlvI')
                    have hCs2 : Cs wk CH i (nextF f g') (fun _ => False) := (hCs.more (M' := fun _ => False) (fun _ _ q => q.elim)).congr (fun t ht => by
                      unfold nextF mixF
                      rw [hgi t ht]
                      by_cases h1 : f t = []
                      · rw [if_pos h1]
                        by_cases h2 : t ∈ lv'
                        · rw [if_pos ⟨h1, h2⟩]
                        · rw [if_neg (fun q => h2 q.2), h1]
                          by_cases h3 : g t = []
                          · exact h3
                          · exact absurd ((hlvI t).2 ⟨ht, h3⟩) h2
                      · rw [if_neg h1, if_neg (fun q => h1 q.1)])
                    have hgk := HGK.out
                    rw [if_neg HLV0.out] at hgk
                    have HLEN2 : Hid (∀ t, (nextF f g' t).length + (gk - 1) ≤ 2 * i + 2) := by
                      intro t
                      unfold nextF
                      by_cases h1 : f t = []
                      · rw [if_pos h1]
                        by_cases h2 : t < i
                        · rw [hgi t h2]
                          rcases HBE.out t (by rw [HN.out]; exact h2) with h | ⟨_, h | ⟨_, j2, _, h, _⟩⟩
                          · exact absurd h1 h.1
                          · rw [h.1]; have := HLEN.out t; simp; omega
                          · rw [h, List.length_append]
                            have := HLEN.out j2
                            simp
                            omega
                        · rw [hgo t (by omega)]; have := HLEN.out t; simp; omega
                      · rw [if_neg h1]; have := HLEN.out t; omega
                    have HFN2 : Hid (∀ t, i ≤ t → nextF f g' t = []) := by
                      intro t ht
                      unfold nextF
                      rw [if_pos (HFN.out t ht)]
                      exact hgo t ht
                    have HGK2 : Hid (2 * unk (nextF f g') i + (if lv' = [] then 0 else 1) ≤ gk - 1) := by
                      unfold Hid
                      by_cases h1 : lv' = []
                      · rw [if_pos h1]
                        have := unk_le (f := f) (g := g') i
                        omega
                      · rw [if_neg h1]
                        obtain ⟨t, ht⟩ := List.exists_mem_of_ne_nil lv' h1
                        obtain ⟨h2, h3⟩ := (hlvI t).1 ht
                        have := unk_lt (f := f) (g := g') h2 (HG0.out t h2 h3) (by rw [hgi t h2]; exact h3)
                        omega
                    obtain ⟨lo', lc', rfl, hlsl', _⟩ := row_slv hlv
                    rw [natsV_len] at *
                    have hll' : lv'.length ≤ i := by omega
                    clear hCs hFd hlv HL1 HL2 hll hI h0 hall hlvI hlvI' hgi hgo hg' hB' HLEV HLEN HFN HGK HG0 HKV HND HBE HLF
                    go_wp2_with fail
                    go_roundg (gk - 1)
                    case measure => omega
                    case rel => exact ⟨_, lv', lo', lc', rfl, hlsl', hll', hCs2, HLEV2, HLEN2, HFN2, HGK2, hG, hGr, hB⟩
                  · intro e w7 he hI7 hC7 hen
                    replace he : e ∈ (leftOf es seen).toList := by simpa using he
                    have hsh := left_shrinks es seen e he
                    obtain ⟨hme, hsn⟩ := mem_left he
                    obtain ⟨p, hp, hep⟩ : ∃ p ∈ m, (e.key, e.val) = entM intV p := by
                      have : (e.key, e.val) ∈ es.toList.map (fun e => (e.key, e.val)) := List.mem_map.2 ⟨e, hme, rfl⟩
                      rw [HKV.out] at this
                      obtain ⟨p, hp, hq⟩ := List.mem_map.1 this
                      exact ⟨p, hp, hq.symm⟩
                    obtain ⟨k, x⟩ := p
                    simp only [entM, Prod.mk.injEq] at hep
                    obtain ⟨t, hti, hkt⟩ := hFd.keys k (List.mem_map.2 ⟨(k, x), hp, rfl⟩)
                    try simp only at hkt
                    subst hkt
                    have hlkx := lk_mem hFd.nd hp
                    try simp only at hlkx
                    obtain ⟨hgt, bx, ox, cpx, hxe⟩ : g t ≠ [] ∧ ∃ b off cap, x = .slice (some ⟨b, off, none⟩) (g t).length cap := by
                      rcases hFd.get t hti with ⟨_, h⟩ | ⟨h, v, h1, h2⟩
                      · rw [h] at hlkx; cases hlkx
                      · rw [h1] at hlkx
                        cases hlkx
                        refine ⟨h, ?_⟩
                        rcases h2 with ⟨h3, _⟩ | ⟨_, b, off, cap, h3, _⟩
                        · exact absurd h3 h
                        · exact ⟨b, off, cap, h3⟩
                    have hchv : ChV wk CH (fun b => b = mf ∨ b = rb ∨ u10.ownBlock = some b) x (g t) := by
                      rcases hFd.get t hti with ⟨_, h⟩ | ⟨_, v, h1, h2⟩
                      · rw [h] at hlkx; cases hlkx
                      · rw [h1] at hlkx; cases hlkx; exact h2
                    rw [hep.1, hep.2, hxe] at hen
                    subst hxe
                    have hft := HG0.out t hti hgt
                    have htI : (t : Int) < (i : Int) := by omega
                    have hlvb : ∀ q, u10.ownBlock = some q → rb + 1 ≤ q := fun q hq => (hlv.lt q hq).1
                    have hCs7 := hCs.chg hC7 hrC.symm (fun b _ q => .inr (.inl q))
                    have hFd7 := hFd.chg hC7 (fun b _ q => .inr (.inr (.inl q)))
                    have hch7 := hchv.chg hC7 (fun b _ _ hm q => hm (.inr (.inl q)))
                    have hlv7 := ownsRow_chg hlv hC7 (fun q hq e => by have := hlvb q hq; omega)
                    have hG7 := hG.chg hC7 hrG.symm
                    have hGr7 := hGr.chg hC7 (fun k _ h2 e => by omega)
                    have hB7 := hB.trans (hC7.toBelow hB.size (fun k hk => by omega))
                    have hrl7 : rb < w7.heap.size := hI7.lt
                    obtain ⟨vc, cc, fc, _⟩ := hCs7.get hti
                    have hsame := hCs7.lt
                    have HKT : Hid (e.key = .int .i64 (t : Nat)) := hid hep.1
                    have hlen1 : lv'.length + 1 ≤ i := by omega
                    have HCH := hid hch7
                    clear hCs hFd hchv hlv hG hGr hB hrl hI hep hlkx hp he hC7 hch7
                    go_upto_region 36 with fail
                    have hcS : Chg (fun q => q = CH) w7 (w7.setCell ⟨CH, t, none⟩ (.slice (some ⟨bx, ox, none⟩) (g t).length cpx)) := (Chg.refl (fun q => q = CH) w7).set (p := ⟨CH, t, none⟩) rfl _
                    have hCs8 := (hCs7.put hti HCH.out).congr (f' := mixF f g (lv' ++ [t])) (fun u hu => by
                      show (if f u = [] ∧ u ∈ lv' ++ [t] then g u else f u) = (if u = t then g t else (if f u = [] ∧ u ∈ lv' then g u else f u))
                      by_cases q : u = t
                      · subst q
                        rw [if_pos ⟨hft, by simp⟩, if_pos rfl]
                      · rw [if_neg q]
                        by_cases h1 : f u = []
                        · by_cases h2 : u ∈ lv'
                          · rw [if_pos ⟨h1, by simp [h2]⟩, if_pos ⟨h1, h2⟩]
                          · rw [if_neg (by simp [h2, q]), if_neg (fun h => h2 h.2)]
                        · rw [if_neg (fun h => h1 h.1), if_neg (fun h => h1 h.1)])
                    have hFd8 := hFd7.chg hcS (fun b _ q => .inl q)
                    have hlv8 := ownsRow_chg hlv7 hcS (fun q hq e => by have := hlvb q hq; omega)
                    have hG8 := hG7.chg hcS (by omega)
                    have hGr8 := hGr7.chg hcS (fun k _ h2 e => by omega)
                    have hB8 := hB7.trans (hcS.toBelow hB7.size (fun k hk => by have := hGr8.hmb; omega))
                    have hI8 := hI7.chg hcS hrC hCm
                    have hrl8 : rb < (w7.setCell ⟨CH, t, none⟩ (.slice (some ⟨bx, ox, none⟩) (g t).length cpx)).heap.size := hI8.lt
                    clear hCs7 hFd7 hlv7 hG7 hGr7 hB7 hI7 hrl7 hcS cc fc hen hsame
                    generalize w7.setCell ⟨CH, t, none⟩ (.slice (some ⟨bx, ox, none⟩) (g t).length cpx) = w8 at *
                    have hl1 : (natsV lv').length + 1 ≤ maxLen := by rw [natsV_len]; unfold maxLen; omega
                    have hl2 : ((natsV lv').length + 1) * 8 ≤ 140737488355328 := by rw [natsV_len]; omega
                    have hm8 : Mine (rb + 1) w8 w8 3 u10 (natsV lv') := ⟨hlv8, Below.refl _ _, by omega⟩
                    go_wp2_with (at_builtin; refine wpl_app1 rfl _ _ 55 rfl 3 _ _ Tryd.ulInt1 Tryd.inInt1 rfl _ _ _ _ hm8 rfl _ rfl rfl hl1 hl2 ?_; intro g9 cap9 w9 hm9 hg9 hB9 hat9)
                    have hc9 : Chg (fun q => u10.ownBlock = some q) w8 w9 := (Chg.refl _ w8).grown hg9 (fun k hk => hk)
                    have hI9 := hI8.chg hc9 (fun q => by have := hlvb _ q; omega) (fun q => by have := hlvb _ q; omega)
                    have hlf9 := hI9.left
                    go_roundw
                    case rel =>
                      refine ⟨seen.push e.born, lv' ++ [t], hI9, hCs8.step hc9 (fun q => by have := hlvb _ q; omega) (fun b _ q => .inr (.inr q)) (fun b hb q => ?_), hFd8.step hc9 (fun b _ q => .inr (.inr (.inr q))) (fun b hb q => ?_), ?_, hid ?_, hid ?_, by simp; omega, hG8.chg hc9 (fun q => by have := hlvb _ q; omega), hGr8.chg hc9 (fun k _ h2 q => by have := hlvb _ q; omega), hB8.trans (hc9.toBelow hB8.size (fun k hk => by have := hlvb _ hk; omega)), hI9.lt⟩
                      · rcases q with q | q | q
                        · exact .inl q
                        · exact .inr (.inl q)
                        · simp only [Value.ownBlock, Option.some.injEq] at q
                          subst q
                          rcases hat9 with h | h
                          · exact .inr (.inr h)
                          · omega
                      · rcases q with q | q | q
                        · exact .inl q
                        · exact .inr (.inl q)
                        · simp only [Value.ownBlock, Option.some.injEq] at q
                          subst q
                          rcases hat9 with h | h
                          · exact .inr (.inr h)
                          · omega
                      · have := hm9.own
                        rw [show natsV (lv' ++ [t]) = natsV lv' ++ [.int .i64 (t : Nat)] by simp [natsV]]
                        exact this
                      · intro u hu
                        rw [List.mem_append, List.mem_singleton] at hu
                        rcases hu with hu | rfl
                        · exact HL1.out u hu
                        · exact ⟨hti, hgt⟩
                      · intro e' he' hs'
                        rw [Array.contains_push] at hs'
                        simp only [Bool.or_eq_true, beq_iff_eq] at hs'
                        rcases hs' with hs' | hs'
                        · obtain ⟨u, hu, hk⟩ := HL2.out e' he' hs'
                          exact ⟨u, by simp [hu], hk⟩
                        · have : e' = e := nodup_inj HND.out he' hme hs'
                          rw [this]
                          exact ⟨t, by simp, HKT.out⟩
                    case measure => rw [hlf9, HLF.out]; exact hsh
        · obtain ⟨bv, ov, cv, rfl, hvs⟩ : ∃ b off cap, vt = .slice (some ⟨b, off, none⟩) (f te).length cap ∧ SlV wr (some ⟨b, off, none⟩) (strsV (f te)) := by
            rcases hvt with ⟨h, _⟩ | ⟨_, b, off, cap, h1, h2, _⟩
            · exact absurd h hft
            · exact ⟨b, off, cap, h1, h2⟩
          have hby := Lev.yes HV.out HLEV.out HEN.out hft
          rw [HID.out] at hby
          have HBY := hid hby
          have HVS := hid hvs
          have hce := ch_eql (b := false) ⟨some ⟨bv, ov, none⟩, (f te).length, cv, rfl, rfl⟩
          have hlv1 : 0 < lv.length ∨ lv.length = 0 := by omega
          clear hby hvs hlsl hCs hG hGr HGK HLEN HFN hft hvt
          generalize lv.length = ll at *
          rcases hlv1 with h | rfl
          · have hI : (0 : Int) < (ll : Int) := by omega
            go_wp2_with fail
            go_ret2
            exact ⟨_, _, _, _, HBY.out, rfl, HVS.out, hB⟩
          · go_wp2_with fail
            go_ret2
            exact ⟨_, _, _, _, HBY.out, rfl, HVS.out, hB⟩
end Go.Proofs.YtgkgpfennlkcnaaDoor
