/- retract: read -/
import Derived.Test.YtgkgpfennlkcnaaDoorRetEnts
import Derived.Test.YtgkgpfennlkcnaaDoorLibQ
import Derived.RegionTactic
import Derived.Deep.RegionLaw
import Derived.Deep.AppendLies
import Derived.Deep.RegionHeld3
import Derived.Outline
import Derived.Deep.CutRange
namespace Go.Proofs.YtgkgpfennlkcnaaDoor
open Go.RowKit

theorem Tryd.ulInts : Tryd.prog.underlying 48 = some (.slice 55) := by kernel_rfl
theorem Tryd.inInts : (Tryd.prog.info? 55).map (fun i => (i.zero, i.size, i.bytes)) = some (some (.slice none 0 0), 1, 24) := by kernel_rfl
theorem Tryd.ulMap : Tryd.prog.underlying 47 = some (.map 9 3) := by kernel_rfl
theorem Tryd.ulStr : Tryd.prog.underlying 9 = some .string := by kernel_rfl
theorem Tryd.hv_int : ∀ w, (zeroValue 3).run Tryd.prog w = .ok (.int .i64 0) w := by intro w; kernel_rfl
theorem results_row2 {P : Program} {fn : Func} {p q : Tmp} {ty : TypeId} (h : fn.results = #[.cell p ty, .tmp q]) (tmps : Array Value) (w : World) (g : Nat) (t : TypeId) (cs : Array Value) (d : TypeDesc)
    (hp : tmps.getD p undef = .pointer (some ⟨g, 0, none⟩)) (hg : w.heap[g]? = some (.cells cs t (0, 0)))
    (hu : P.underlying ty = some d) (hd : (match d with | .struct _ | .array _ _ => true | _ => false) = true) (hi : (P.info? ty).map (·.size) = some cs.size) :
    (results fn tmps).run P w = .ok (.tuple #[.agg cs, tmps.getD q undef]) w := by
  have hp' : tmps[p]?.getD undef = .pointer (some ⟨g, 0, none⟩) := by simpa using hp
  simp [results, h, hp', asAddr, run_loadVar_row w g t ty cs (0, 0) d hg hu hd hi]
/-- what read hands back -/
def ReadPost (L : List Ent) (len : Nat) (w : World) (e : Ending) (w' : World) : Prop :=
  ∃ mb F, e = .returned (.tuple #[.agg #[.map (some mb), .slice (some ⟨F, 0, none⟩) len len], .bool (validB L)]) ∧ (validB L = true → Gr w' L mb F w.heap.size w'.heap.size) ∧ Below w.heap.size w w'
theorem ReadPost.no {L : List Ent} {len mb F : Nat} {w w' : World} {b : Value} (hb : b = .bool false) (hv : validB L = false) (hB : Below w.heap.size w w') : ReadPost L len w (.returned (.tuple #[.agg #[.map (some mb), .slice (some ⟨F, 0, none⟩) len len], b])) w' :=
  ⟨mb, F, by rw [hb, hv], fun q => (by rw [hv] at q; cases q), hB⟩
set_option maxRecDepth 100000 in
set_option maxHeartbeats 4000000 in
theorem read_any (ao : Option Addr) (cap : Nat) (L : List Ent) (w : World) (hE : Ents w ao L) (hS : Small L) :
    Calls Tryd.prog 27 #[.slice ao L.length cap] w (ReadPost L L.length w) := by
  generalize hn : L.length = len at *
  have HN := hid hn
  clear hn
  have hmm := @run_makeMap Tryd.prog
  obtain ⟨hS1, hS2⟩ := hS
  rw [HN.out] at hS1
  have HS := hid hS2
  clear hS2
  go_enter Tryd.func27, Tryd.ntmps27
  go_upto_region 2 with (refine wpl_make rfl _ _ 48 rfl _ _ _ Tryd.ulInts Tryd.inInts rfl _ _ len rfl rfl (by omega) (by omega) (by omega) (by unfold maxLen; omega) ?_; intro w2 F hf0 hf1 hF hg2; have hR := ((Blk.new w _ _).alloc _).grown hg2 (by simp))
  have hM0 := MapIs.new (w.alloc (.cells #[.map none, .slice none 0 0] 50)) Value.string
  rw [World.size_alloc] at hM0 hf0
  have hM := hM0.grown hg2 (by simp)
  have hB2 : Below w.heap.size w w2 := ((below_alloc w _).alloc (by rw [World.size_alloc]; omega) _).grown hg2 (by rw [World.size_alloc, World.size_alloc]; omega) (fun k hk => by cases hk)
  rw [World.size_alloc] at hf0
  clear hmm hM0 hg2
  obtain ⟨w3, hw3, hG, hBa⟩ : ∃ W : World, w2.alloc (.cells #[.map (some (w.heap.size + 1)), .slice (some ⟨F, 0, none⟩) len len] 50) = W ∧ Blk W w2.heap.size 50 [.map (some (w.heap.size + 1)), .slice (some ⟨F, 0, none⟩) len len] ∧ Below w2.heap.size w2 W := ⟨_, rfl, Blk.new w2 _ _, below_alloc w2 _⟩
  rw [hw3]
  clear hw3
  replace hR := hR.below hBa hR.lt
  replace hM := hM.below hBa hM.lt
  replace hF := hF.below hBa hf1
  have hB := hB2.trans (hBa.mono hB2.size)
  clear hBa hB2
  obtain ⟨rb, hrb⟩ : ∃ b, w.heap.size = b := ⟨_, rfl⟩
  obtain ⟨mb, hmb⟩ : ∃ b, w.heap.size + 1 = b := ⟨_, rfl⟩
  rw [hmb] at hM hG
  rw [hrb] at hR
  have HRB := hid hrb
  have HNE : Hid (rb < mb ∧ mb < F ∧ F < w2.heap.size) := hid ⟨by omega, by omega, by omega⟩
  simp only [hmb]
  simp only [hrb]
  clear hmb hrb hf0 hf1
  generalize w2.heap.size = gb at *
  have n1 : rb ≠ mb := by have := HNE.out; omega
  have n2 : rb ≠ F := by have := HNE.out; omega
  have n3 : rb ≠ gb := by have := HNE.out; omega
  have n4 : mb ≠ F := by have := HNE.out; omega
  have n5 : mb ≠ gb := by have := HNE.out; omega
  have n6 : F ≠ gb := by have := HNE.out; omega
  have hwr : w.heap.size ≤ rb := by have := HRB.out; omega
  by_cases h1000 : 1000 < len
  · have hI : (1000 : Int) < (len : Int) := by omega
    have hv : validB L = false := validB_no (fun q => by have := q.1; rw [HN.out] at this; omega)
    have g0 := hG.cell 0  ;have g1 := hG.cell 1  ;simp only [List.getElem?_cons_succ, List.getElem?_cons_zero] at g0 g1
    go_wp2_with (refine wpList_store_row rfl 50 _ _ rfl rb _ rfl rfl 50 _ hR (by kernel_rfl) rfl (by simp [Value.oneCell']) ?_)
    (try simp only [Exit.inBlock, Exit.then]); refine bodyPost_ret (results_row2 rfl _ _ rb 50 _ _ rfl (setRow_heap _ _ _ _ _ _ hR) Tryd.underlying50 rfl (by kernel_rfl)) rfl ?_
    exact ReadPost.no rfl hv (below_setRow hB hwr _)
  have hI : ¬ (1000 : Int) < (len : Int) := by omega
  go_wp2_with fail
  go_loopw [26] (fun s26 wr => ∃ k : Nat, s26 = .int .i64 k ∧ k ≤ len ∧ Blk wr rb 50 [.map none, .slice none 0 0] ∧ Blk wr gb 50 [.map (some mb), .slice (some ⟨F, 0, none⟩) len len] ∧ Blk wr F 55 (List.replicate len (.slice none 0 0)) ∧
      MapIs wr mb Value.string (atM L k) ∧ Front L k ∧ Below w.heap.size w wr) (fun s26 _ => len - (intOf s26).toNat)
  case atStart => exact ⟨0, rfl, by omega, hR, hG, hF, by rw [at_zero]; exact hM, fun i e hi => by omega, hB⟩
  case round =>
    clear hR hG hF hM hB
    obtain ⟨k, rfl, hk, hR, hG, hF, hM, hFr, hB⟩ := hrel
    have HFr := hid hFr
    clear hFr
    by_cases hkl : k < len
    · obtain ⟨e, he⟩ : ∃ t, L[k]? = some t := ⟨_, List.getElem?_eq_getElem (by rw [HN.out]; omega)⟩
      obtain ⟨b, off, ea, hb, a0, a1⟩ := (hE.below hB).at he
      subst ea
      have HE := hid he
      have hes := HS.out e (List.mem_of_getElem? he)
      clear he hb
      go_upto_region 7 with fail
      obtain ⟨w4, hw4, hX, hBa⟩ : ∃ W : World, wr.alloc (.cells #[.string e.id, .slice e.ao e.cs.length e.cap] 31) = W ∧ Blk W wr.heap.size 31 [.string e.id, .slice e.ao e.cs.length e.cap] ∧ Below wr.heap.size wr W := ⟨_, rfl, Blk.new wr _ _, below_alloc wr _⟩
      rw [hw4]
      clear hw4 a0 a1
      replace hR := hR.below hBa hR.lt
      replace hG := hG.below hBa hG.lt
      have nx1 : rb ≠ wr.heap.size := by have := hB.size; have := hM.lt; have := HNE.out; omega
      have nx2 : mb ≠ wr.heap.size := by have := hM.lt; omega
      replace hM := hM.below hBa hM.lt
      replace hF := hF.below hBa hF.lt
      replace hB := hB.trans (hBa.mono hB.size)
      clear hBa
      generalize wr.heap.size = xb at *
      have x0 := hX.cell 0
      have x1 := hX.cell 1
      have g0 := hG.cell 0  ;have g1 := hG.cell 1  ;simp only [List.getElem?_cons_succ, List.getElem?_cons_zero] at g0 g1
      simp only [List.getElem?_cons_succ, List.getElem?_cons_zero] at x0 x1
      have hlk := hM.run_look strKey Tryd.ulMap Tryd.ulStr (Tryd.hv_int _) e.id true
      simp only [if_true] at hlk
      have HID := hid (fun w => ident_any e.id w hes.1)
      rcases lk_at L k e.id with ⟨q1, q2⟩ | ⟨j, q1, q2, q3⟩
      · rw [q1] at hlk
        simp only [Option.getD_none, Option.isSome_none] at hlk
        have HQ := hid q2
        clear q1 q2
        cases hI9 : idB e.id.data.toList with
        | false =>
          rw [hI9] at HID
          have hv : validB L = false := validB_no (fun q => by have := (q.2.1 k e (by rw [HN.out]; omega) HE.out).2.1; rw [hI9] at this; cases this)
          have HV := hid hv
          clear hv hI9
          go_wp2_with fail
          refine (HID.out _).mono ?_
          rintro en w5 ⟨rfl, hB5⟩
          replace hR := hR.below hB5 hR.lt
          replace hG := hG.below hB5 hG.lt
          replace hB := hB.trans (hB5.mono hB.size)
          clear g0 g1 hlk x0 x1 hX hM hF hB5
          have g0 := hG.cell 0  ;have g1 := hG.cell 1  ;simp only [List.getElem?_cons_succ, List.getElem?_cons_zero] at g0 g1
          go_wp2_with (refine wpList_store_row rfl 50 _ _ rfl rb _ rfl rfl 50 _ hR (by kernel_rfl) rfl (by simp [Value.oneCell']) ?_)
          (try simp only [Exit.inBlock, Exit.then]); refine bodyPost_ret (results_row2 rfl _ _ rb 50 _ _ rfl (setRow_heap _ _ _ _ _ _ hR) Tryd.underlying50 rfl (by kernel_rfl)) rfl ?_
          exact ReadPost.no rfl HV.out (below_setRow hB hwr _)
        | true =>
          rw [hI9] at HID
          have HI9 := hid hI9
          clear hI9
          by_cases h20 : 20 < e.cs.length
          · have hv : validB L = false := validB_no (fun q => by have := (q.2.1 k e (by rw [HN.out]; omega) HE.out).2.2; omega)
            have HV := hid hv
            clear hv
            have hi20 : (20 : Int) < (e.cs.length : Int) := by omega
            go_wp2_with fail
            refine (HID.out _).mono ?_
            rintro en w5 ⟨rfl, hB5⟩
            replace hR := hR.below hB5 hR.lt
            replace hG := hG.below hB5 hG.lt
            replace hX := hX.below hB5 hX.lt
            replace hB := hB.trans (hB5.mono hB.size)
            clear g0 g1 hlk x0 x1 hM hF hB5
            have x1 := hX.cell 1
            simp only [List.getElem?_cons_succ, List.getElem?_cons_zero] at x1
            have g0 := hG.cell 0  ;have g1 := hG.cell 1  ;simp only [List.getElem?_cons_succ, List.getElem?_cons_zero] at g0 g1
            go_wp2_with (refine wpList_store_row rfl 50 _ _ rfl rb _ rfl rfl 50 _ hR (by kernel_rfl) rfl (by simp [Value.oneCell']) ?_)
            (try simp only [Exit.inBlock, Exit.then]); refine bodyPost_ret (results_row2 rfl _ _ rb 50 _ _ rfl (setRow_heap _ _ _ _ _ _ hR) Tryd.underlying50 rfl (by kernel_rfl)) rfl ?_
            exact ReadPost.no rfl HV.out (below_setRow hB hwr _)
          · have hi20 : ¬ (20 : Int) < (e.cs.length : Int) := by omega
            go_wp2_with fail
            refine (HID.out _).mono ?_
            rintro en w5 ⟨rfl, hB5⟩
            replace hR := hR.below hB5 hR.lt
            replace hG := hG.below hB5 hG.lt
            replace hX := hX.below hB5 hX.lt
            replace hF := hF.below hB5 hF.lt
            replace hM := hM.below hB5 hM.lt
            replace hB := hB.trans (hB5.mono hB.size)
            clear g0 g1 hlk x0 x1 hB5
            have x0 := hX.cell 0
            have x1 := hX.cell 1
            simp only [List.getElem?_cons_succ, List.getElem?_cons_zero] at x0 x1
            have g0 := hG.cell 0  ;have g1 := hG.cell 1  ;simp only [List.getElem?_cons_succ, List.getElem?_cons_zero] at g0 g1
            go_wp2_with (refine wpl_mapset rfl _ _ _ 47 rfl strKey _ _ Tryd.ulMap Tryd.ulStr mb _ rfl hM e.id rfl ?_; intro w6 hM6 hg6)
            replace hM6 : MapIs w6 mb Value.string (atM L (k + 1)) := at_step HE.out HQ.out ▸ hM6
            have hB6 := hB.grown hg6 hB.size (fun q hq => by cases hq; have := HNE.out; omega)
            go_roundw
            case rel => exact ⟨k + 1, by go_num, by omega, hR.grown hg6 (by simp; omega), hG.grown hg6 (by simp; omega), hF.grown hg6 (by simp; omega), hM6, HFr.out.step HE.out HQ.out HI9.out (by omega), hB6⟩
            case measure => simp [intOf]; omega
      · have hv : validB L = false := validB_no (fun q => by
          have := (q.2.1 k e (by rw [HN.out]; omega) HE.out).1
          exact this (List.mem_of_getElem? (by rw [List.getElem?_take, if_pos q1]; exact q2)))
        have HV := hid hv
        rw [q3] at hlk
        simp only [Option.getD_some, Option.isSome_some] at hlk
        clear hv q1 q2 q3 HID
        go_wp2_with (refine wpList_store_row rfl 50 _ _ rfl rb _ rfl rfl 50 _ hR (by kernel_rfl) rfl (by simp [Value.oneCell']) ?_)
        (try simp only [Exit.inBlock, Exit.then]); refine bodyPost_ret (results_row2 rfl _ _ rb 50 _ _ rfl (setRow_heap _ _ _ _ _ _ hR) Tryd.underlying50 rfl (by kernel_rfl)) rfl ?_
        exact ReadPost.no rfl HV.out (below_setRow hB hwr _)
    · obtain rfl : k = len := by omega
      have HFL : Hid (Front L L.length) := by rw [HN.out]; exact hid HFr.out
      replace hM : MapIs wr mb Value.string (atM L L.length) := by rw [HN.out]; exact hM
      have hEf := Effs.start (B := gb + 1) hF (by have := HNE.out; omega) (fun j => eff2 L 0 0 ((ids L).getD j ByteArray.empty)) gb (fun j => by rw [eff2_zero]; rfl)
      clear hF HFr
      have hgbF : F < gb := HNE.out.2.2
      go_wp2_with fail
      go_loopw [61] (fun s61 wr => ∃ i : Nat, s61 = .int .i64 i ∧ i ≤ k ∧ Blk wr rb 50 [.map none, .slice none 0 0] ∧ Blk wr gb 50 [.map (some mb), .slice (some ⟨F, 0, none⟩) k k] ∧ (∃ X, X < wr.heap.size ∧ Effs wr (gb + 1) F k (fun j => eff2 L i 0 ((ids L).getD j ByteArray.empty)) X) ∧
        MapIs wr mb Value.string (atM L L.length) ∧ Right L i ∧ Below w.heap.size w wr) (fun s61 _ => k - (intOf s61).toNat)
      case atStart => exact ⟨0, rfl, by omega, hR, hG, ⟨gb, hG.lt, hEf⟩, hM, fun i e hi => by omega, hB⟩
      case round =>
        clear hR hG hEf hM hB
        obtain ⟨i, rfl, hi, hR, hG, ⟨X, hXl, hEf⟩, hM, hRt, hB⟩ := hrel
        by_cases hik : i < k
        · obtain ⟨e, he⟩ : ∃ t, L[i]? = some t := ⟨_, List.getElem?_eq_getElem (by rw [HN.out]; omega)⟩
          have hmem := List.mem_of_getElem? he
          obtain ⟨b, off, ea, hb, a0, a1⟩ := (hE.below hB).at he
          subst ea
          have HE := hid he
          have hcs := hE.cs e hmem
          have hcp := hE.hcap e hmem
          have hc2 := (HFL.out i e (by rw [HN.out]; omega) he).2.2
          clear he hb hmem
          obtain ⟨eid, eao, ecs, ecap⟩ := e
          simp only at a0 a1 hcs hcp hc2
          obtain ⟨wo, hwo⟩ : ∃ wo : World, wo = wr := ⟨_, rfl⟩
          subst hwo
          generalize hcl : ecs.length = cl at *
          have HCL := hid hcl
          clear hcl
          go_upto_region 15 with fail
          obtain ⟨w4, hw4, hX, hBa⟩ : ∃ W : World, wo.alloc (.cells #[.string eid, .slice eao cl ecap] 31) = W ∧ Blk W wo.heap.size 31 [.string eid, .slice eao cl ecap] ∧ Below wo.heap.size wo W := ⟨_, rfl, Blk.new wo _ _, below_alloc wo _⟩
          rw [hw4]
          clear hw4 a0 a1
          have nx1 : F ≠ wo.heap.size := by have := hEf.lt; omega
          have nx3 : gb ≠ wo.heap.size := by have := hG.lt; omega
          replace hR := hR.below hBa hR.lt
          replace hG := hG.below hBa hG.lt
          replace hM := hM.below hBa hM.lt
          have hxl : wo.heap.size < w4.heap.size := hX.lt
          replace hEf := hEf.fresh hBa
          clear hXl
          replace hB := hB.trans (hBa.mono hB.size)
          clear hBa
          generalize wo.heap.size = xb at *
          have x1 := hX.cell 1
          simp only [List.getElem?_cons_succ, List.getElem?_cons_zero] at x1
          go_wp2_with fail
          clear x1
          go_loopw [69] (fun s69 wi => ∃ j : Nat, s69 = .int .i64 j ∧ j ≤ cl ∧ Blk wi rb 50 [.map none, .slice none 0 0] ∧ Blk wi gb 50 [.map (some mb), .slice (some ⟨F, 0, none⟩) k k] ∧ Effs wi (gb + 1) F k (fun t => eff2 L i j ((ids L).getD t ByteArray.empty)) xb ∧
            MapIs wi mb Value.string (atM L L.length) ∧ Blk wi xb 31 [.string eid, .slice eao cl ecap] ∧ Rt L ecs j ∧ Below w.heap.size w wi) (fun s69 _ => cl - (intOf s69).toNat)
          case atStart => exact ⟨0, rfl, by omega, hR, hG, hEf, hM, hX, fun j c hj => by omega, hB⟩
          case round =>
            clear hR hG hEf hM hX hB
            obtain ⟨j, rfl, hj, hR, hG, hEf, hM, hX, hRc, hB⟩ := hrel
            by_cases hjl : j < cl
            · obtain ⟨c, hc⟩ : ∃ c, ecs[j]? = some c := ⟨_, List.getElem?_eq_getElem (by rw [HCL.out]; omega)⟩
              obtain ⟨b2, off2, ea, hb2, a2⟩ := (hcs.below hB).cell j (.string c) (by rw [List.getElem?_map, hc]; rfl)
              subst ea
              clear hb2
              have HC := hid hc
              clear hc
              have x1 := hX.cell 1
              simp only [List.getElem?_cons_succ, List.getElem?_cons_zero] at x1
              have g0 := hG.cell 0  ;have g1 := hG.cell 1  ;simp only [List.getElem?_cons_succ, List.getElem?_cons_zero] at g0 g1
              have hlk := hM.run_look strKey Tryd.ulMap Tryd.ulStr (Tryd.hv_int _) c true
              simp only [if_true] at hlk
              rcases lk_at L L.length c with ⟨q1, q2⟩ | ⟨t, q1, q2, q3⟩
              · have hv : validB L = false := validB_no (fun q => by
                  have := (q.2.2 i ⟨eid, some ⟨b2, off2, none⟩, ecs, ecap⟩ (by rw [HN.out]; omega) HE.out j c (by show j < ecs.length; rw [HCL.out]; omega) HC.out).1
                  rw [List.take_of_length_le (by rw [ids_len]; omega)] at q2
                  exact q2 this)
                have HV := hid hv
                rw [q1] at hlk
                simp only [Option.getD_none, Option.isSome_none] at hlk
                clear hv q1 q2
                go_wp2_with (refine wpList_store_row rfl 50 _ _ rfl rb _ rfl rfl 50 _ hR (by kernel_rfl) rfl (by simp [Value.oneCell']) ?_)
                (try simp only [Exit.inBlock, Exit.then]); refine bodyPost_ret (results_row2 rfl _ _ rb 50 _ _ rfl (setRow_heap _ _ _ _ _ _ hR) Tryd.underlying50 rfl (by kernel_rfl)) rfl ?_
                exact ReadPost.no rfl HV.out (below_setRow hB hwr _)
              · rw [q3] at hlk
                simp only [Option.getD_some, Option.isSome_some] at hlk
                have HCO := hid (fun w (h : SlV w (some ⟨b2, off2, none⟩) ((ecs.take j).map Value.string)) => cont_any (some ⟨b2, off2, none⟩) ecap (ecs.take j) c w h (by rw [List.length_take, HCL.out]; omega))
                rw [show (ecs.take j).length = j by rw [List.length_take, HCL.out]; omega] at HCO
                have hsl2 : SlV wr (some ⟨b2, off2, none⟩) ((ecs.take j).map Value.string) := by rw [List.map_take]; exact (hcs.below hB).take j
                have HSL := hid hsl2
                clear hsl2
                by_cases hct : c ∈ ecs.take j
                · have hv : validB L = false := validB_no (fun q => (q.2.2 i ⟨eid, some ⟨b2, off2, none⟩, ecs, ecap⟩ (by rw [HN.out]; omega) HE.out j c (by show j < ecs.length; rw [HCL.out]; omega) HC.out).2 hct)
                  have HV := hid hv
                  rw [decide_eq_true hct] at HCO
                  clear hv q1 q2 q3 hct
                  go_wp2_with fail
                  refine (HCO.out _ HSL.out).mono ?_
                  rintro en w' ⟨rfl, rfl⟩
                  go_wp2_with (refine wpList_store_row rfl 50 _ _ rfl rb _ rfl rfl 50 _ hR (by kernel_rfl) rfl (by simp [Value.oneCell']) ?_)
                  (try simp only [Exit.inBlock, Exit.then]); refine bodyPost_ret (results_row2 rfl _ _ rb 50 _ _ rfl (setRow_heap _ _ _ _ _ _ hR) Tryd.underlying50 rfl (by kernel_rfl)) rfl ?_
                  exact ReadPost.no rfl HV.out (below_setRow hB hwr _)
                · rw [decide_eq_false hct] at HCO
                  have HQ2 := hid q2
                  have HCT := hid hct
                  have htk : t < k := by have := HN.out; omega
                  clear q1 q2 q3 hct
                  go_upto_region 21 with (refine (HCO.out _ HSL.out).mono ?_; rintro en w' ⟨rfl, rfl⟩)
                  have hgt : (ids L).getD t ByteArray.empty = c := by rw [List.getD, HQ2.out]; rfl
                  have hst : ∀ u, u ≠ t → u < k → eff2 L i (j + 1) ((ids L).getD u ByteArray.empty) = eff2 L i j ((ids L).getD u ByteArray.empty) := by
                    intro u hu huk
                    rw [eff2_step HE.out HC.out HCT.out, if_neg]
                    intro q
                    apply hu
                    obtain ⟨d, hd⟩ : ∃ d, (ids L)[u]? = some d := ⟨_, List.getElem?_eq_getElem (by rw [ids_len, HN.out]; omega)⟩
                    have : (ids L).getD u ByteArray.empty = d := by rw [List.getD, hd]; rfl
                    rw [this] at q
                    subst q
                    exact HFL.out.dist hd HQ2.out
                  have hst2 : eff2 L i (j + 1) ((ids L).getD t ByteArray.empty) = eff2 L i j ((ids L).getD t ByteArray.empty) ++ [i] := by
                    rw [hgt, eff2_step HE.out HC.out HCT.out, if_pos rfl]
                  have hlen := eff2_len L i j ((ids L).getD t ByteArray.empty)
                  obtain ⟨v, cF, hown, hxv, hput⟩ := hEf.row hX.lt htk
                  try simp only at hown hput
                  have HST := hid hst
                  have HST2 := hid hst2
                  have HPUT := hid hput
                  clear hst hst2 hput hlk g0 x1 a2
                  obtain ⟨i9, hi9, hz9, hs9, hb9⟩ := info_parts (show (Tryd.prog.info? 3).map (fun i => (i.zero, i.size, i.bytes)) = some (some (.int .i64 0), 1, 8) by kernel_rfl)
                  generalize hX0 : eff2 L i j ((ids L).getD t ByteArray.empty) = X0 at *
                  have HX0 := hid hX0
                  clear hX0
                  have htI : (t : Int) < (k : Int) := by omega
                  have hnG := World.new_ne wr _ g1
                  have hnF := World.new_ne wr _ cF
                  have hw1 : ((wr.alloc (.cells #[.int .i64 (i : Nat)] 3)).drew).ownsRow (gb + 1) 3 1 v X0.length (natsV X0) := hown.alloc _
                  have hnews : ∀ q u, [Value.int .i64 (i : Nat)][q]? = some u → ((wr.alloc (.cells #[.int .i64 (i : Nat)] 3)).drew).cell? ((⟨wr.heap.size, 0, none⟩ : Addr).add q) = some u := World.news_of_block (heap_alloc_new wr _)
                  have ho1 : ∀ u ∈ [Value.int .i64 (i : Nat)], u.oneCell' = true := by intro u hu; simp at hu; subst hu; rfl
                  have hl1 : X0.length + 1 ≤ maxLen := by unfold maxLen; omega
                  have hl2 : (X0.length + 1) * 8 ≤ 140737488355328 := by omega
                  have hFl := hG.lt
                  have hbs : gb + 1 ≤ ((wr.alloc (.cells #[.int .i64 (i : Nat)] 3)).drew).heap.size := by show gb + 1 ≤ (wr.alloc _).heap.size; rw [World.size_alloc]; omega
                  have hsz : ((wr.alloc (.cells #[.int .i64 (i : Nat)] 3)).drew).heap.size = wr.heap.size + 1 := by show (wr.alloc _).heap.size = _; rw [World.size_alloc]
                  have hFb : ∃ vs, Blk wr F 55 vs := by obtain ⟨vs, _, q, _⟩ := hEf.ex; exact ⟨vs, q⟩
                  obtain ⟨vs, hFb⟩ := hFb
                  have hFv : some F ≠ v.ownBlock := fun q => by have := (hown.lt F q.symm).1; omega
                  have hGv : some gb ≠ v.ownBlock := fun q => by have := (hown.lt gb q.symm).1; omega
                  have cF1 : (wr.alloc (.cells #[.int .i64 (i : Nat)] 3)).cell? ⟨F, t, none⟩ = some v := ((below_alloc wr _).cell (p := ⟨F, t, none⟩) hFb.lt).trans cF
                  have g11 : (wr.alloc (.cells #[.int .i64 (i : Nat)] 3)).cell? ⟨gb, 1, none⟩ = some (.slice (some ⟨F, 0, none⟩) k k) := ((below_alloc wr _).cell (p := ⟨gb, 1, none⟩) hG.lt).trans g1
                  clear hFl
                  go_region_law
                    (refine step_append_lies _ (by rfl) _ _ 55 (by rfl) (gb + 1) 3 i9 _ 1 8 Tryd.underlying55 hi9 hz9 hs9 hb9 (by decide) (by decide) v X0.length (natsV X0) (by rfl) hw1 ⟨wr.heap.size, 0, none⟩ 1 1 [.int .i64 (i : Nat)] (by rfl) rfl hnews ho1 (by decide) hl1 hl2 hbs (wr.heap.size + 1) hsz ?_; intro g6 cap6 w6 hown6 hgrow6 hat6 hlt6; have hG6 := ((hG.alloc (.cells #[.int .i64 (i : Nat)] 3)).drew).grown hgrow6 hGv; have g61 := hG6.cell 1; have hF6 := ((hFb.alloc (.cells #[.int .i64 (i : Nat)] 3)).drew).grown hgrow6 hFv; have f6 := hF6.free t; have cF6 := hF6.cell t; rw [hFb.cell t] at cF)
                  all_goals
                    have hgw : wr.grownBy w6 v.ownBlock := (grownBy_drew (World.grownBy_alloc wr (.cells #[.int .i64 (i : Nat)] 3) v.ownBlock)).trans hgrow6
                    have hE6 := HPUT.out w6 g6 cap6 i (fun u => if u = t then X0 ++ [i] else eff2 L i j ((ids L).getD u ByteArray.empty)) hgw (by simpa [natsV] using hown6) (by rcases hat6 with q | q; exact .inl q; exact .inr (by omega)) (by simp) (fun u hu => by simp [hu])
                    simp only [if_true, List.length_append, List.length_cons, List.length_nil, Nat.zero_add] at hE6
                    have hE7 := hE6.congr (rows' := fun u => eff2 L i (j + 1) ((ids L).getD u ByteArray.empty)) (fun u huk => by
                      by_cases hu : u = t
                      · rw [hu, HST2.out, if_pos rfl]
                      · rw [if_neg hu]; exact HST.out u hu huk)
                    have hrv : some rb ≠ v.ownBlock := fun q => by have := (hown.lt rb q.symm).1; have := HNE.out; omega
                    have hmv : some mb ≠ v.ownBlock := fun q => by have := (hown.lt mb q.symm).1; have := HNE.out; omega
                    have hcS : Chg (fun q => q = F) w6 (w6.setCell ⟨F, t, none⟩ (.slice (some ⟨g6, 0, none⟩) (X0.length + 1) cap6)) := (Chg.refl (fun q => q = F) w6).set (p := ⟨F, t, none⟩) rfl _
                    have hB6 := (hB.grown hgw hB.size (fun q hq => by have := (hown.lt q hq).1; have := HNE.out; omega)).setCell (p := ⟨F, t, none⟩) (by show w.heap.size ≤ F; have := HNE.out; omega) (.slice (some ⟨g6, 0, none⟩) (X0.length + 1) cap6)
                    have hR6 := (hR.grown hgw hrv).chg hcS n2
                    have hG7 := hG6.chg hcS n6.symm
                    have hM6 := (hM.grown hgw hmv).chg hcS n4
                    have hX6 := (hX.grown hgw hxv).chg hcS nx1.symm
                    clear hE6 hcS hG6 hF6 hgrow6 hown6 g61 cF6 f6 cF cF1 g11 g1 hw1 hnews hsz hbs hown hgw HPUT hEf hFb
                    go_wp2_with fail
                    go_roundw
                    case rel => exact ⟨j + 1, by go_num, by omega, hR6, hG7, hE7, hM6, hX6, hRc.step HC.out (List.mem_of_getElem? HQ2.out) HCT.out, hB6⟩
                    case measure => simp [intOf]; omega
            · obtain rfl : j = cl := by omega
              have hEf2 : Effs wr (gb + 1) F k (fun t => eff2 L (i + 1) 0 ((ids L).getD t ByteArray.empty)) xb := hEf.congr (fun t _ => by
                rw [eff2_zero, ← eff2_end HE.out]
                show eff2 L i ecs.length _ = _
                rw [HCL.out])
              clear hEf
              go_wp2_with fail
              go_roundw
              case rel => exact ⟨i + 1, by go_num, by omega, hR, hG, ⟨xb, hX.lt, hEf2⟩, hM, hRt.step HE.out (by rw [HCL.out]; exact hRc), hB⟩
              case measure => simp [intOf]; omega
        · obtain rfl : i = k := by omega
          have hv : validB L = true := validB_iff.2 ⟨by have := HN.out; omega, HFL.out, by rw [HN.out]; exact hRt⟩
          have HV := hid hv
          clear hv
          have g0 := hG.cell 0  ;have g1 := hG.cell 1  ;simp only [List.getElem?_cons_succ, List.getElem?_cons_zero] at g0 g1
          go_wp2_with (refine wpList_store_row rfl 50 _ _ rfl rb _ rfl rfl 50 _ hR (by kernel_rfl) rfl (by simp [Value.oneCell']) ?_)
          (try simp only [Exit.inBlock, Exit.then]); refine bodyPost_ret (results_row2 rfl _ _ rb 50 _ _ rfl (setRow_heap _ _ _ _ _ _ hR) Tryd.underlying50 rfl (by kernel_rfl)) rfl ?_
          have hc := Chg.row wr rb #[.map (some mb), .slice (some ⟨F, 0, none⟩) i i]
          refine ⟨mb, F, by rw [HV.out]; rfl, fun _ => Effs.gr (hM.chg hc n1.symm) (B := gb + 1) (X := X) (hA := ⟨by have := HNE.out; omega, by have := HNE.out; omega⟩) (by rw [show (wr.setRow rb #[.map (some mb), .slice (some ⟨F, 0, none⟩) i i]).heap.size = wr.heap.size by simp]; exact hXl) ?_, below_setRow hB hwr _⟩
          have := hEf.chg hc n2.symm (fun g hg q => by have := HNE.out; omega)
          rw [HN.out]
          refine this.congr (fun j _ => ?_)
          rw [eff2_zero]
end Go.Proofs.YtgkgpfennlkcnaaDoor
