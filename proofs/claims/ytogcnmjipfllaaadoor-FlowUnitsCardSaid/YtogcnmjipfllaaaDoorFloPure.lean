/- flow: FlowPure -/
import Derived.Test.YtogcnmjipfllaaaDoorFloLib
import Derived.Test.YtogcnmjipfllaaaDoorFloOpen
namespace Go.Proofs.YtogcnmjipfllaaaDoor
open Go.RowKit

theorem madeU (n : Nat) : (madeCells #[Value.int .i64 0, Value.int .i64 0, Value.int .i64 0] (n * 3)).toList = unitsC (List.replicate n u0) := by
  have h1 : (madeCells #[Value.int .i64 0, Value.int .i64 0, Value.int .i64 0] (n * 3)).toList = List.replicate (3 * n) (Value.int .i64 0) := by
    unfold madeCells
    apply List.ext_getElem
    · simp [Nat.mul_comm]
    · intro i h1 h2
      have h3 : i % 3 = 0 ∨ i % 3 = 1 ∨ i % 3 = 2 := by omega
      rcases h3 with h3 | h3 | h3 <;> simp [h3]
  rw [h1]
  clear h1
  induction n with
  | zero => rfl
  | succ n ih =>
    rw [List.replicate_succ, show 3 * (n + 1) = 3 * n + 1 + 1 + 1 by omega, List.replicate_succ, List.replicate_succ, List.replicate_succ, ih]
    simp [unitsC, uCells, u0]
theorem uns_made (u : World) (n : Nat) (h : n ≤ 300) : Uns (u.alloc (.cells (madeCells #[Value.int .i64 0, Value.int .i64 0, Value.int .i64 0] (n * 3)) 34)) (some ⟨u.heap.size, 0, none⟩) (List.replicate n u0) := by
  unfold Uns
  rw [← madeU]
  refine slv_made u _ _ ?_
  have := congrArg List.length (madeU n)
  rw [unitsC_len, List.length_replicate] at this
  simp only [Array.length_toList] at this
  omega
theorem make_units (n : Nat) (hn : n ≤ 300) (w : World) : (Instr.makeSlice 25 (.int .i64 n) (.int .i64 n)).run Tryd.prog w = .ok (.slice (some ⟨w.heap.size, 0, none⟩) n n) (w.alloc (.cells (madeCells #[Value.int .i64 0, Value.int .i64 0, Value.int .i64 0] (n * 3)) 34)) := by
  obtain ⟨i, hi, hz, hsize, hby⟩ := info_parts Tryd.unitInfo
  have h := run_make (P := Tryd.prog) w 25 34 i _ Tryd.underlying25 hi hz .i64 .i64 n n (by omega) (Int.le_refl _) (by rw [hby]; omega) (by omega)
  rw [hsize] at h
  simp only [Int.toNat_natCast] at h
  exact h
theorem units_cap (f : Flw) (so : Option Addr) (sc : Nat) (I : List U) (io : Option Addr) (il ic : Nat) (w : World) (hS : Stps w so f.steps) (hI : I.length = 4 → Uns w io I) (hil : I.length = il) (hs : f.name.size ≤ 1000000) :
    Calls Tryd.prog 8 #[fV f so sc, .slice io il ic] w fun e w' => ∃ ao cap, e = .returned (.tuple #[.slice ao (unitsF f I).1.length cap, .int .i64 (unitsF f I).2]) ∧ Uns w' ao (unitsF f I).1 ∧ Below w.heap.size w w' ∧ (unitsF f I).1.length ≤ cap := by
  subst hil
  refine (funits_any f so sc I io ic w hS hI hs).mono ?_
  rintro e w' ⟨v, n, rfl, hn, hm⟩
  have h40 := unitsF_few f I
  subst hn
  obtain ⟨ao, cap, e1, hsl⟩ := own_rowZ hm.own (by unfold maxLen; omega)
  refine ⟨ao, cap, by rw [e1], hsl, hm.below, ?_⟩
  rcases hm.own.2 with ⟨e2, h3⟩ | ⟨g, cap2, cur, hv, _, _, h4, _⟩
  · rw [h3]; exact Nat.zero_le _
  · rw [e1] at hv
    cases hv
    exact h4
theorem uns_drew {w : World} {ao : Option Addr} {L : List U} (h : Uns w ao L) : Uns w.drew ao L := SlV.drew h
set_option maxHeartbeats 4000000 in
set_option maxRecDepth 100000 in
theorem pure_walk (f : Flw) (so : Option Addr) (sc : Nat) (I : List U) (io : Option Addr) (ic : Nat) (raw : Int) (w : World) (hS : f.steps.length ≤ 1000 → Stps w so f.steps) (hl : f.steps.length ≤ sc) (hm : sc ≤ maxLen) (hnm : f.name.size ≤ maxLen) (hI : I.length = 4 → Uns w io I) (hr : 0 ≤ raw ∧ raw ≤ 255) :
    Calls Tryd.prog 4 #[fV f so sc, .slice io I.length ic, .int .u8 raw] w fun e w' => e = .returned (.bool true) ∧ Below w.heap.size w w' := by
  have HHEAD := hid (fun w => head_any w)
  have HFEW := hid (fun w => few_any f so sc w (by omega) hnm)
  obtain ⟨m, hm4⟩ : ∃ m, I.length = m := ⟨_, rfl⟩
  rw [hm4]
  have HM := hid hm4
  clear hm4
  have hfb := Blk.new w #[.string f.name, .int .i64 f.ver, .slice so f.steps.length sc] 24
  have hB0 := below_alloc w (.cells #[.string f.name, .int .i64 f.ver, .slice so f.steps.length sc] 24)
  simp only [fV]
  simp only [fV] at HFEW
  go_enter Tryd.func4, Tryd.ntmps4
  go_wp2_with fail
  refine (HHEAD.out _).mono ?_
  rintro e w1 ⟨rfl, hB1⟩
  replace hfb := hfb.below hB1 hfb.lt
  replace hB1 := hB0.trans (hB1.mono hB0.size)
  clear hB0 HHEAD
  generalize hfbn : w.heap.size = fb at hfb hB1 ⊢
  have HFBN := hid hfbn
  clear hfbn
  have c0 := hfb.cell 0
  have c1 := hfb.cell 1
  have c2 := hfb.cell 2
  simp only [List.getElem?_cons_zero, List.getElem?_cons_succ] at c0 c1 c2
  have HH := hid (And.intro hfb hB1)
  clear hfb hB1
  go_wp2_with fail
  refine (HFEW.out _).mono ?_
  rintro e w2 ⟨rfl, hB2⟩
  clear HFEW c0 c1 c2
  obtain ⟨hfb, hB1⟩ := HH.out
  replace hfb := hfb.below hB2 hfb.lt
  replace hB1 := hB1.trans (hB2.mono (by have := hB1.size; have := HFBN.out; omega))
  clear hB2 HH
  by_cases hfew : f.steps.length ≤ 50 ∧ f.name.size ≤ 60
  · rw [show (decide (f.steps.length ≤ 50) && decide (f.name.size ≤ 60)) = true by simp [hfew.1, hfew.2]]
    have HST := hid (fun (w' : World) (hB : Below fb w w') => (SlV.below (hS (by omega)) (by rw [HFBN.out]; exact hB) : Stps w' so f.steps))
    have hs60 : f.name.size ≤ 1000000 := by omega
    have HV := hid (fun (w' : World) (hB : Below fb w w') => fvalid_any f so sc w' (HST.out w' hB) hs60)
    have HU := hid (fun (w' : World) (hB : Below fb w w') (I : List U) (io : Option Addr) (il ic : Nat) (hI : I.length = 4 → Uns w' io I) (hil : I.length = il) => units_cap f so sc I io il ic w' (HST.out w' hB) hI hil hs60)
    have HI := hid hI
    have HF := hid hfew
    have HSC := hid (And.intro hl hm)
    clear hfew hs60 hS hI hl hm hnm
    simp only [fV] at HV HU
    have c0 := hfb.cell 0
    have c1 := hfb.cell 1
    have c2 := hfb.cell 2
    simp only [List.getElem?_cons_zero, List.getElem?_cons_succ] at c0 c1 c2
    have HH := hid (And.intro hfb hB1)
    clear hfb hB1
    go_wp2_with fail
    obtain ⟨hfb, hB1⟩ := HH.out
    refine (HV.out _ hB1).mono ?_
    rintro e w3 ⟨rfl, hB3⟩
    replace hfb := hfb.below hB3 hfb.lt
    replace hB1 := hB1.trans (hB3.mono (by have := hB1.size; have := HFBN.out; omega))
    clear hB3 HH c0 c1 c2
    cases hv : fvB f with
    | false =>
      go_wp2_with fail
      go_ret
      exact ⟨rfl, by rw [HFBN.out]; exact hB1⟩
    | true =>
      have hpr := fvB_parts hv
      obtain ⟨n, hn⟩ : ∃ n, f.steps.length = n := ⟨_, rfl⟩
      rw [hn] at hfb HV HU
      have hn1 : 1 ≤ n := by rw [← hn]; exact hpr.2.1
      have hn40 : n ≤ 40 := by rw [← hn]; exact hpr.2.2.1
      have hn0 : ¬ (n : Int) = 0 := by omega
      have hnp : (0 : Int) < n := by omega
      have HN := hid hn
      have HVV := hid hv
      have c0 := hfb.cell 0
      have c1 := hfb.cell 1
      have c2 := hfb.cell 2
      simp only [List.getElem?_cons_zero, List.getElem?_cons_succ] at c0 c1 c2
      have HH := hid (And.intro hfb hB1)
      clear hfb hB1 hv hpr
      rw [hn]
      have HU0 := hid (fun (w' : World) (hB : Below fb w w') (io : Option Addr) (hI : Uns w' io [u0, u0, u0, u0]) => (by
        have := HU.out w' hB [u0, u0, u0, u0] io 4 4 (fun _ => hI) rfl
        rw [unitsF_u0 HVV.out, hn] at this
        simp only [List.length_replicate] at this
        exact this.mono (fun e w'' ⟨ao, cap, q1, q2, q3, _⟩ => ⟨ao, cap, q1, q2, q3⟩) : Calls Tryd.prog 8 #[.agg #[.string f.name, .int .i64 f.ver, .slice so n sc], .slice io 4 4] w' fun e w'' => ∃ ao cap, e = .returned (.tuple #[.slice ao n cap, .int .i64 0]) ∧ Uns w'' ao (List.replicate n u0) ∧ Below w'.heap.size w' w''))
      clear hn
      have hH := HH.out
      have c0a : ∀ o, (w3.alloc o).cell? ⟨fb, 0, none⟩ = some (.string f.name) := fun o => (hH.1.alloc o).cell 0
      have c1a : ∀ o, (w3.alloc o).cell? ⟨fb, 1, none⟩ = some (.int .i64 f.ver) := fun o => (hH.1.alloc o).cell 1
      have c2a : ∀ o, (w3.alloc o).cell? ⟨fb, 2, none⟩ = some (.slice so n sc) := fun o => (hH.1.alloc o).cell 2
      have hfbs : fb ≤ w3.heap.size := by have := hH.1.lt; omega
      have hU4 := hid (uns_made w3 4 (by omega))
      have hB4 := hid (hH.2.alloc hfbs (.cells (madeCells #[Value.int .i64 0, Value.int .i64 0, Value.int .i64 0] (4 * 3)) 34))
      clear hH
      have hmk4 : ∀ w, (Instr.makeSlice 25 (.int .i64 4) (.int .i64 4)).run Tryd.prog w = .ok (.slice (some ⟨w.heap.size, 0, none⟩) 4 4) (w.alloc (.cells (madeCells #[Value.int .i64 0, Value.int .i64 0, Value.int .i64 0] (4 * 3)) 34)) := fun w => make_units 4 (by omega) w
      go_upto_region 4 with fail
      have HN1 := hid hn1
      obtain ⟨z0, hz0⟩ : ∃ z0, ((n : Int) == 0) = z0 := ⟨_, rfl⟩
      rw [hz0]
      clear hz0 hn0 hnp hn1
      go_cut [8, 9] from 32 to 37 (fun s8 s9 wx => ∃ ao cap, s8 = .slice ao n cap ∧ s9 = .int .i64 0 ∧ Uns wx ao (List.replicate n u0) ∧ Below w3.heap.size w3 wx)
      case first =>
        go_region_with
          (go_at_call 8; (first | refine (HU0.out _ (hB4.out) _ hU4.out).mono ?_ | refine (HU0.out _ (hB4.out.drew) _ (uns_drew hU4.out)).mono ?_ | refine (HU0.out _ (hB4.out.drew.drew) _ (uns_drew (uns_drew hU4.out))).mono ?_); rintro e8 w8 ⟨ao8, cap8, rfl, hU8, hB8⟩)
        all_goals
          have hB9 := hB8.mono (show w3.heap.size ≤ _ by simp)
          go_wp2_with fail
          go_meet
          case rel =>
            refine ⟨ao8, cap8, by first | rfl | (simp [Act.put]; done), by first | rfl | (simp [Act.put]; done), hU8, ?_⟩
            first | exact ((below_alloc w3 _).trans hB9) | exact ((below_alloc w3 _).drew.trans hB9)
      case rest =>
        have hn1 := HN1.out
        obtain ⟨ao, cap, rfl, rfl, hU5, hB5⟩ := hcut
        obtain ⟨hfb, hB1⟩ := HH.out
        replace hfb := hfb.below hB5 hfb.lt
        replace hB1 := hB1.trans (hB5.mono hfbs)
        clear c0 c1 c2 c0a c1a c2a hU4 hB4 hmk4 HU0 HH hB5 hfbs
        have hmk := fun w => make_units n (by omega) w
        have c2 := hfb.cell 2
        simp only [List.getElem?_cons_zero, List.getElem?_cons_succ] at c2
        have HH := hid (And.intro hfb (And.intro hB1 hU5))
        clear hfb hB1 hU5
        go_wp2_with fail
        obtain ⟨hfb, hB1, hU5⟩ := HH.out
        have hfbs : fb ≤ wc.heap.size := by have := hfb.lt; omega
        have hfb1 := hfb.alloc (.cells (madeCells #[Value.int .i64 0, Value.int .i64 0, Value.int .i64 0] (n * 3)) 34)
        have hB2 := hB1.alloc hfbs (.cells (madeCells #[Value.int .i64 0, Value.int .i64 0, Value.int .i64 0] (n * 3)) 34)
        have hsm := same_yes ao (some ⟨wc.heap.size, 0, none⟩) cap n (List.replicate n u0) _ (SlV.below hU5 (below_alloc wc (.cells (madeCells #[Value.int .i64 0, Value.int .i64 0, Value.int .i64 0] (n * 3)) 34))) (uns_made wc n (by omega)) (by simp; omega)
        rw [List.length_replicate] at hsm
        refine hsm.mono ?_
        rintro e w5 ⟨rfl, hB5⟩
        replace hfb := hfb1.below hB5 hfb1.lt
        replace hB1 := hB2.trans (hB5.mono (by simp; omega))
        clear hsm hfb1 hB2 hB5 hfbs hmk c2 HH hU5
        obtain ⟨k, hk⟩ : ∃ k, raw.toNat % n = k := ⟨_, rfl⟩
        have hkn : k < n := by rw [← hk]; exact Nat.mod_lt _ (by omega)
        obtain ⟨s, hs⟩ : ∃ s, f.steps[k]? = some s := ⟨_, List.getElem?_eq_getElem (by rw [HN.out]; exact hkn)⟩
        obtain ⟨sb, soff, rfl, hsbl, s0, s1, s2, s3⟩ := (show Stps _ so f.steps from HST.out _ hB1).at hs
        have hmod : raw.tmod n = (k : Int) := by
          obtain ⟨r, rfl⟩ : ∃ r : Nat, raw = r := ⟨raw.toNat, by omega⟩
          rw [← Int.ofNat_tmod, ← hk]; simp
        have hkI : (k : Int) < n := by omega
        have hn0' : ¬ (n : Int) = 0 := by omega
        have HMA := hid (fun w => mask_any s.op w)
        have hwr : IntKind.i64.wrap raw = raw := IntWalk.i64_in _ (by omega)
        obtain ⟨sop, sa, sb', sn⟩ := s
        simp only at s0 HMA
        have c2 := hfb.cell 2
        simp only [List.getElem?_cons_zero, List.getElem?_cons_succ] at c2
        have HH := hid (And.intro hfb hB1)
        clear hfb hB1 s1 s2 s3 hk hsbl
        go_wp2_with fail
        refine (HMA.out _).mono ?_
        rintro e w6 ⟨rfl, rfl⟩
        clear s0 c2
        cases hmk : (opr sop).m with
        | false =>
          go_wp2_with fail
          go_ret
          exact ⟨rfl, by rw [HFBN.out]; exact HH.out.2⟩
        | true =>
          obtain ⟨hfb, hB1⟩ := HH.out
          have c0 := hfb.cell 0
          have c1 := hfb.cell 1
          have c2 := hfb.cell 2
          simp only [List.getElem?_cons_zero, List.getElem?_cons_succ] at c0 c1 c2
          have hkw : IntKind.i64.wrap ((k : Int) + 1) = (k : Int) + 1 := IntWalk.i64_in _ (by omega)
          have hksc : k + 1 ≤ sc := by have := HSC.out.1; have := HN.out; omega
          have hkscI : (k : Int) + 1 ≤ sc := by omega
          have HS := hid hs
          have HMK := hid hmk
          have hnefb : fb ≠ w6.heap.size := by have := hfb.lt; omega
          have c0a : ∀ o, (w6.alloc o).cell? ⟨fb, 0, none⟩ = some (.string f.name) := fun o => (hfb.alloc o).cell 0
          have c1a : ∀ o, (w6.alloc o).cell? ⟨fb, 1, none⟩ = some (.int .i64 f.ver) := fun o => (hfb.alloc o).cell 1
          have c2a : ∀ o, (w6.alloc o).cell? ⟨fb, 2, none⟩ = some (.slice (some ⟨sb, soff, none⟩) n sc) := fun o => (hfb.alloc o).cell 2
          have c0b : ∀ o v, ((w6.alloc o).setCell ⟨w6.heap.size, 2, none⟩ v).cell? ⟨fb, 0, none⟩ = some (.string f.name) := fun o v => ((hfb.alloc o).other _ hnefb v).cell 0
          have c1b : ∀ o v, ((w6.alloc o).setCell ⟨w6.heap.size, 2, none⟩ v).cell? ⟨fb, 1, none⟩ = some (.int .i64 f.ver) := fun o v => ((hfb.alloc o).other _ hnefb v).cell 1
          have c2b : ∀ o v, ((w6.alloc o).setCell ⟨w6.heap.size, 2, none⟩ v).cell? ⟨fb, 2, none⟩ = some (.slice (some ⟨sb, soff, none⟩) n sc) := fun o v => ((hfb.alloc o).other _ hnefb v).cell 2
          clear hs hmk hmod hn0' HH
          have HH := hid (And.intro hfb hB1)
          clear hfb hB1
          go_wp2_with fail
          obtain ⟨hfb, hB1⟩ := HH.out
          clear c0 c1 c2 c0a c1a c2a c0b c1b c2b HH
          have hfbs : fb ≤ w6.heap.size := by have := hfb.lt; omega
          have hpb := Blk.new w6 #[.string f.name, .int .i64 f.ver, .slice (some ⟨sb, soff, none⟩) (k + 1) sc] 24
          have hB2 := hB1.alloc hfbs (.cells #[.string f.name, .int .i64 f.ver, .slice (some ⟨sb, soff, none⟩) (k + 1) sc] 24)
          have hfb2 := hfb.alloc (.cells #[.string f.name, .int .i64 f.ver, .slice (some ⟨sb, soff, none⟩) (k + 1) sc] 24)
          generalize w6.alloc (.cells #[.string f.name, .int .i64 f.ver, .slice (some ⟨sb, soff, none⟩) (k + 1) sc] 24) = w7 at *
          generalize w6.heap.size = pb at *
          clear hfb hB1 hfbs hnefb
          have HPS := hid (fun (w' : World) (hB : Below fb w w') => (by
            refine (show Stps w' (some ⟨sb, soff, none⟩) (f.steps.take (k + 1)) from ⟨by rw [stpsCells_len, List.length_take]; unfold maxLen; omega, fun i x hi => ?_⟩)
            have hx := (HST.out w' hB)
            have hi2 : (stpsCells f.steps)[i]? = some x := by
              have hlt := (List.getElem?_eq_some_iff.1 hi).1
              have e : stpsCells f.steps = stpsCells (f.steps.take (k + 1)) ++ stpsCells (f.steps.drop (k + 1)) := by
                unfold stpsCells
                rw [← List.flatMap_append, List.take_append_drop]
              rw [e, List.getElem?_append_left hlt]
              exact hi
            exact hx.cell i x hi2 : Stps w' (some ⟨sb, soff, none⟩) (partF f k).steps))
          have hpl : (partF f k).steps.length = k + 1 := by unfold partF; simp only [List.length_take]; have := HN.out; omega
          have HV2 := hid (fun (w' : World) (hB : Below fb w w') => (by
            have := fvalid_any (partF f k) (some ⟨sb, soff, none⟩) sc w' (HPS.out w' hB) (by show f.name.size ≤ 1000000; have := HF.out.2; omega)
            rw [part_valid HVV.out HS.out HMK.out] at this
            simp only [fV] at this
            rw [hpl] at this
            exact this : Calls Tryd.prog 9 #[.agg #[.string f.name, .int .i64 f.ver, .slice (some ⟨sb, soff, none⟩) (k + 1) sc]] w' fun e w'' => e = .returned (.bool true) ∧ Below w'.heap.size w' w''))
          have HU2 := hid (fun (w' : World) (hB : Below fb w w') (hI : I.length = 4 → Uns w' io I) => (by
            have := units_is (partF f k) (some ⟨sb, soff, none⟩) sc I io m ic w' (HPS.out w' hB) hI HM.out (by show f.name.size ≤ 1000000; have := HF.out.2; omega) (L := (unitsF (partF f k) I).1) (x := (unitsF (partF f k) I).2) rfl (unitsF_few _ I)
            simp only [fV] at this
            rw [hpl] at this
            exact this : Calls Tryd.prog 8 #[.agg #[.string f.name, .int .i64 f.ver, .slice (some ⟨sb, soff, none⟩) (k + 1) sc], .slice io m ic] w' fun e w'' => ∃ ao cap, e = .returned (.tuple #[.slice ao (unitsF (partF f k) I).1.length cap, .int .i64 (unitsF (partF f k) I).2]) ∧ Uns w'' ao (unitsF (partF f k) I).1 ∧ Below w'.heap.size w' w''))
          have HIB := hid (fun (w' : World) (hB : Below fb w w') (h : I.length = 4) => (SlV.below (HI.out h) (by rw [HFBN.out]; exact hB) : Uns w' io I))
          have hu1 := HU.out _ hB2 I io m ic (HIB.out _ hB2) HM.out
          have HPU := hid (fun (L : List U) (h : unitsF f I = (L, 0)) => part_units h HS.out HMK.out)
          obtain ⟨⟨L, x⟩, hLx⟩ : ∃ r, unitsF f I = r := ⟨_, rfl⟩
          obtain ⟨⟨L2, x2⟩, hLx2⟩ : ∃ r, unitsF (partF f k) I = r := ⟨_, rfl⟩
          have hL40 := unitsF_few f I
          rw [hLx] at hu1 HPU hL40
          rw [hLx2] at HU2 HPU
          refine hu1.mono ?_
          rintro e w8 ⟨uo, uc, rfl, hU8, hB8, hucap⟩
          have hw7 : fb ≤ w7.heap.size := by have := hfb2.lt; omega
          replace hpb := hpb.below hB8 hpb.lt
          replace hfb2 := hfb2.below hB8 hfb2.lt
          replace hB2 := hB2.trans (hB8.mono hw7)
          clear hu1 hB8 hw7 HST HV HU hLx hLx2
          have p0 := hpb.cell 0
          have p1 := hpb.cell 1
          have p2 := hpb.cell 2
          simp only [List.getElem?_cons_zero, List.getElem?_cons_succ] at p0 p1 p2
          have HH := hid (And.intro hpb (And.intro hfb2 (And.intro hB2 hU8)))
          clear hpb hfb2 hB2 hU8
          simp only at hL40 HPU HU2 ⊢
          generalize hLl : L.length = ll at *
          have HLL := hid hLl
          clear hLl
          go_wp2_with fail
          obtain ⟨hpb, hfb2, hB2, hU8⟩ := HH.out
          refine (HU2.out _ hB2 (HIB.out _ hB2)).mono ?_
          rintro e w9 ⟨vo, vc, rfl, hU9, hB9⟩
          have hw8 : fb ≤ w8.heap.size := by have := hfb2.lt; omega
          replace hpb := hpb.below hB9 hpb.lt
          replace hfb2 := hfb2.below hB9 hfb2.lt
          replace hB2 := hB2.trans (hB9.mono hw8)
          replace hU8 : Uns w9 uo L := SlV.below hU8 hB9
          clear hB9 hw8 HH p0 p1 p2
          have p0 := hpb.cell 0
          have p1 := hpb.cell 1
          have p2 := hpb.cell 2
          simp only [List.getElem?_cons_zero, List.getElem?_cons_succ] at p0 p1 p2
          have HH := hid (And.intro hpb (And.intro hfb2 (And.intro hB2 (And.intro hU8 hU9))))
          clear hpb hfb2 hB2 hU8 hU9
          go_wp2_with fail
          obtain ⟨hpb, hfb2, hB2, hU8, hU9⟩ := HH.out
          refine (HV2.out _ hB2).mono ?_
          rintro e w10 ⟨rfl, hB10⟩
          have hw8 : fb ≤ w9.heap.size := by have := hfb2.lt; omega
          replace hfb2 := hfb2.below hB10 hfb2.lt
          replace hB2 := hB2.trans (hB10.mono hw8)
          replace hU8 : Uns w10 uo L := SlV.below hU8 hB10
          replace hU9 : Uns w10 vo L2 := SlV.below hU9 hB10
          clear hB10 hw8 HH p0 p1 p2 hpb
          by_cases hx0 : x = 0
          · subst hx0
            obtain ⟨hq1, hq2⟩ := HPU.out L rfl
            obtain ⟨rfl, rfl⟩ := Prod.mk.inj hq1
            have hll : ll = n := by rw [← HLL.out, hq2, HN.out]
            subst hll
            have hl2 : (L.take (k + 1)).length = k + 1 := by rw [List.length_take, HLL.out]; omega
            rw [hl2]
            have c2 := hfb2.cell 2
            simp only [List.getElem?_cons_zero, List.getElem?_cons_succ] at c2
            obtain ⟨u1, hu1⟩ : ∃ u, L[0]? = some u := ⟨_, List.getElem?_eq_getElem (by rw [HLL.out]; omega)⟩
            obtain ⟨ub, uoff, rfl, -, -, -, -⟩ := hU8.at hu1
            have hsm := same_yes vo (some ⟨ub, uoff, none⟩) vc uc (L.take (k + 1)) w10 hU9 (by
              refine ⟨by rw [unitsC_len, hl2]; unfold maxLen; omega, fun i x hi => ?_⟩
              have hlt := (List.getElem?_eq_some_iff.1 hi).1
              have e : unitsC L = unitsC (L.take (k + 1)) ++ unitsC (L.drop (k + 1)) := by
                unfold unitsC
                rw [← List.flatMap_append, List.take_append_drop]
              exact SlV.cell hU8 i x (by rw [e, List.getElem?_append_left hlt]; exact hi)) (by rw [hl2]; omega)
            rw [hl2] at hsm
            have hkc : (k : Int) + 1 ≤ uc := by omega
            have hkc2 : k + 1 ≤ uc := by omega
            have HSM := hid hsm
            have HB2 := hid hB2
            clear hsm hU8 hU9 hu1 hl2 hfb2 hB2 hq1 hq2 HLL hL40 HPU HU2 HPS HV2 hpl
            go_wp2_with fail
            refine (HSM.out).mono ?_
            rintro e w11 ⟨rfl, hB11⟩
            go_wp2_with fail
            go_ret
            exact ⟨rfl, by rw [HFBN.out]; exact HB2.out.trans (hB11.mono (by have := HB2.out.size; have := HFBN.out; omega))⟩
          · have hxb : (x == 0) = false := beq_eq_false_iff_ne.2 hx0
            go_wp2_with fail
            go_ret
            exact ⟨rfl, by rw [HFBN.out]; exact hB2⟩
  · rw [show (decide (f.steps.length ≤ 50) && decide (f.name.size ≤ 60)) = false by rw [Bool.eq_false_iff]; intro q; simp only [Bool.and_eq_true, decide_eq_true_eq] at q; exact hfew q]
    go_wp2_with fail
    go_ret
    exact ⟨rfl, by rw [HFBN.out]; exact hB1⟩
theorem pure_law (a0 : FlwA) (a1 : Option Addr) (len1 cap1 : Nat) (z1 : List U) (a2 : Int) (W : World) (w0 : FlwWf W a0.f a0.so a0.sc) (w1 : UnsArg W a1 len1 cap1 z1) (w2 : (Lit.int .u8 a2).wf = true) :
    Calls Tryd.prog 4 #[a0.v, .slice a1 len1 cap1, .int .u8 a2] W fun e w' => e = .returned (.bool true) ∧ Below W.heap.size W w' := by
  have h1 := w1.hlen
  subst h1
  exact pure_walk a0.f a0.so a0.sc z1 a1 cap1 a2 W w0.steps.at_ w0.steps.hcap w0.steps.hmax w0.size (fun h => w1.at_ (by omega)) (u8_bd w2)
end Go.Proofs.YtogcnmjipfllaaaDoor
