/- retract: the law's small functions -/
import Derived.Test.YtgkgpfennlkcnaaDoorRetBec
import Derived.Test.YtgkgpfennlkcnaaDoorLibQ
namespace Go.Proofs.YtgkgpfennlkcnaaDoor
open Go.RowKit

set_option maxHeartbeats 2000000 in
theorem bools_yes (ao bo : Option Addr) (ca cb : Nat) (l : List Bool) (w : World) (hA : SlV w ao (bools l)) (hB : SlV w bo (bools l)) (hl : l.length ≤ 100000) :
    Calls Tryd.prog 15 #[.slice ao l.length ca, .slice bo l.length cb] w fun e w' => e = .returned (.bool true) ∧ Below w.heap.size w w' := by
  generalize hn : l.length = n at *
  have HN := hid hn
  clear hn
  go_enter Tryd.func15, Tryd.ntmps15
  go_wp2_with fail
  go_loopw [5] (fun s5 wr => ∃ k : Nat, s5 = .int .i64 k ∧ k ≤ n ∧ Below w.heap.size w wr) (fun s5 _ => n - (intOf s5).toNat)
  case atStart => exact ⟨0, rfl, by omega, Below.refl _ _⟩
  case round =>
    obtain ⟨k, rfl, hk, hBw⟩ := hrel
    by_cases hkn : k < n
    · obtain ⟨x, hx⟩ : ∃ x, l[k]? = some x := ⟨_, List.getElem?_eq_getElem (by rw [HN.out]; omega)⟩
      obtain ⟨b1, o1, e1, _, c1⟩ := (hA.below hBw).cell k (.bool x) (by unfold bools; rw [List.getElem?_map, hx]; rfl)
      obtain ⟨b2, o2, e2, _, c2⟩ := (hB.below hBw).cell k (.bool x) (by unfold bools; rw [List.getElem?_map, hx]; rfl)
      subst e1 e2
      have hkI : (k : Int) < (n : Int) := by omega
      clear hA hB hx
      go_wp2_with fail
      refine wp_region_quiet_all (by kernel_rfl) (by kernel_rfl) ?_
      repeat (go_big_quiet_step (fail))
      refine wpQuiet_end ?_
      cases x
      all_goals
        go_wp2_with fail
        go_roundw
        case rel => exact ⟨k + 1, by go_num, by omega, hBw.drew⟩
        case measure => simp [intOf]; omega
    · go_wp2_with fail
      go_ret
      exact ⟨rfl, hBw⟩
set_option maxHeartbeats 2000000 in
theorem same01_yes (ao bo : Option Addr) (ca cb : Nat) (l : List ByteArray) (w : World) (hA : SlV w ao (strsV l)) (hB : SlV w bo (strsV l)) (hl : l.length ≤ 100000) :
    Calls Tryd.prog 16 #[.slice ao l.length ca, .slice bo l.length cb] w fun e w' => e = .returned (.bool true) ∧ Below w.heap.size w w' := by
  generalize hn : l.length = n at *
  have HN := hid hn
  clear hn
  go_enter Tryd.func16, Tryd.ntmps16
  go_wp2_with fail
  go_loopw [5] (fun s5 wr => ∃ k : Nat, s5 = .int .i64 k ∧ k ≤ n ∧ Below w.heap.size w wr) (fun s5 _ => n - (intOf s5).toNat)
  case atStart => exact ⟨0, rfl, by omega, Below.refl _ _⟩
  case round =>
    obtain ⟨k, rfl, hk, hBw⟩ := hrel
    by_cases hkn : k < n
    · obtain ⟨x, hx⟩ : ∃ x, l[k]? = some x := ⟨_, List.getElem?_eq_getElem (by rw [HN.out]; omega)⟩
      obtain ⟨b1, o1, e1, _, c1⟩ := (hA.below hBw).cell k (.string x) (by unfold strsV; rw [List.getElem?_map, hx]; rfl)
      obtain ⟨b2, o2, e2, _, c2⟩ := (hB.below hBw).cell k (.string x) (by unfold strsV; rw [List.getElem?_map, hx]; rfl)
      subst e1 e2
      have hkI : (k : Int) < (n : Int) := by omega
      have hq : (x.toList == x.toList) = true := beq_self_eq_true _
      clear hA hB hx
      go_wp2_with fail
      refine wp_region_quiet_all (by kernel_rfl) (by kernel_rfl) ?_
      repeat (go_big_quiet_step (fail))
      refine wpQuiet_end ?_
      go_wp2_with fail
      go_roundw
      case rel => exact ⟨k + 1, by go_num, by omega, hBw.drew⟩
      case measure => simp [intOf]; omega
    · go_wp2_with fail
      go_ret
      exact ⟨rfl, hBw⟩
theorem bytes_beq {x s : ByteArray} : (x.toList == s.toList) = decide (x = s) := by
  rw [Bool.eq_iff_iff]
  simp only [beq_iff_eq, decide_eq_true_eq]
  rw [ByteArray.toList_eq, ByteArray.toList_eq]
  exact ⟨fun q => ByteArray.ext (Array.toList_inj.1 q), fun q => by rw [q]⟩
set_option maxHeartbeats 2000000 in
theorem in_any (ao : Option Addr) (ca : Nat) (l : List ByteArray) (s : ByteArray) (w : World) (hA : SlV w ao (strsV l)) (hl : l.length ≤ 100000) :
    Calls Tryd.prog 11 #[.slice ao l.length ca, .string s] w fun e w' => e = .returned (.bool (decide (s ∈ l))) ∧ w = w' := by
  obtain ⟨R, HR⟩ : ∃ R, Hid (decide (s ∈ l) = R) := ⟨_, hid rfl⟩
  rw [HR.out]
  generalize hn : l.length = n at *
  have HN := hid hn
  clear hn
  go_enter Tryd.func11, Tryd.ntmps11
  go_wp2_with fail
  go_loopw [5] (fun s5 wr => ∃ k : Nat, s5 = .int .i64 k ∧ k ≤ n ∧ Hid (s ∉ l.take k) ∧ w = wr) (fun s5 _ => n - (intOf s5).toNat)
  case atStart => exact ⟨0, rfl, by omega, hid (by simp), rfl⟩
  case round =>
    obtain ⟨k, rfl, hk, HP, rfl⟩ := hrel
    by_cases hkn : k < n
    · obtain ⟨x, hx⟩ : ∃ x, l[k]? = some x := ⟨_, List.getElem?_eq_getElem (by rw [HN.out]; omega)⟩
      obtain ⟨b1, o1, e1, _, c1⟩ := hA.cell k (.string x) (by unfold strsV; rw [List.getElem?_map, hx]; rfl)
      subst e1
      have hkI : (k : Int) < (n : Int) := by omega
      have HX := hid hx
      clear hx
      by_cases hq : x = s
      · have hqb : (x.toList == s.toList) = true := by rw [bytes_beq]; exact decide_eq_true hq
        have HQ := hid hq
        clear hq
        go_wp2_with fail
        go_ret
        refine ⟨ret_bool ?_, by trivial⟩
        rw [← HR.out, decide_eq_true (by rw [← HQ.out]; exact List.mem_of_getElem? HX.out)]
      · have hqb : (x.toList == s.toList) = false := by rw [bytes_beq]; exact decide_eq_false hq
        have HQ := hid hq
        clear hq
        go_wp2_with fail
        go_roundw
        case rel =>
          refine ⟨k + 1, by go_num, by omega, hid ?_, by trivial⟩
          rw [List.take_add_one, HX.out]
          simp only [Option.toList_some, List.mem_append, List.mem_singleton]
          rintro (q | q)
          · exact HP.out q
          · exact HQ.out q.symm
        case measure => simp [intOf]; omega
    · go_wp2_with fail
      go_ret
      refine ⟨ret_bool ?_, by trivial⟩
      rw [← HR.out, decide_eq_false]
      have := HP.out
      rwa [List.take_of_length_le (by rw [HN.out]; omega)] at this
/-! ### sizes -/
def few01 (R : List ByteArray) : Bool := R.all (fun s => decide (s.size ≤ 40)) && decide (R.length ≤ 30)
set_option maxHeartbeats 2000000 in
theorem few01_any (ao : Option Addr) (ca : Nat) (l : List ByteArray) (w : World) (hA : SlV w ao (strsV l)) :
    Calls Tryd.prog 25 #[.slice ao l.length ca, .int .i64 40] w fun e w' => e = .returned (.bool (few01 l)) ∧ w = w' := by
  have hlm := hA.len
  unfold strsV at hlm
  rw [List.length_map] at hlm
  unfold maxLen at hlm
  obtain ⟨R, HR⟩ : ∃ R, Hid (few01 l = R) := ⟨_, hid rfl⟩
  rw [HR.out]
  generalize hn : l.length = n at *
  have HN := hid hn
  clear hn
  go_enter Tryd.func25, Tryd.ntmps25
  go_wp2_with fail
  go_loopw [5] (fun s5 wr => ∃ k : Nat, s5 = .int .i64 k ∧ k ≤ n ∧ Hid ((l.take k).all (fun s => decide (s.size ≤ 40)) = true) ∧ w = wr) (fun s5 _ => n - (intOf s5).toNat)
  case atStart => exact ⟨0, rfl, by omega, hid rfl, rfl⟩
  case round =>
    obtain ⟨k, rfl, hk, HP, rfl⟩ := hrel
    by_cases hkn : k < n
    · obtain ⟨x, hx⟩ : ∃ x, l[k]? = some x := ⟨_, List.getElem?_eq_getElem (by rw [HN.out]; omega)⟩
      obtain ⟨b1, o1, e1, _, c1⟩ := hA.cell k (.string x) (by unfold strsV; rw [List.getElem?_map, hx]; rfl)
      subst e1
      have hkI : (k : Int) < (n : Int) := by omega
      have HX := hid hx
      clear hx
      by_cases hq : 40 < x.size
      · have hqI : (40 : Int) < (x.size : Int) := by omega
        go_wp2_with fail
        go_ret
        refine ⟨ret_bool ?_, by trivial⟩
        rw [← HR.out]
        unfold few01
        have : l.all (fun s => decide (s.size ≤ 40)) = false := by
          rw [Bool.eq_false_iff]
          intro h
          have := List.all_eq_true.1 h x (List.mem_of_getElem? HX.out)
          simp only [decide_eq_true_eq] at this
          omega
        rw [this]; rfl
      · have hqI : ¬ (40 : Int) < (x.size : Int) := by omega
        go_wp2_with fail
        go_roundw
        case rel =>
          refine ⟨k + 1, by go_num, by omega, hid ?_, by trivial⟩
          rw [List.take_add_one, HX.out, List.all_append, HP.out]
          simp; omega
        case measure => simp [intOf]; omega
    · have hall := HP.out
      rw [List.take_of_length_le (by rw [HN.out]; omega)] at hall
      have HF := hid (show few01 l = decide (n ≤ 30) by unfold few01; rw [hall, HN.out]; rfl)
      clear hall
      by_cases h30 : n ≤ 30
      · have h3 : (n : Int) ≤ 30 := by omega
        go_wp2_with fail
        go_ret
        exact ⟨ret_bool (by rw [← HR.out, HF.out, decide_eq_true h30]), by trivial⟩
      · have h3 : ¬ (n : Int) ≤ 30 := by omega
        go_wp2_with fail
        go_ret
        exact ⟨ret_bool (by rw [← HR.out, HF.out, decide_eq_false h30]), by trivial⟩
def fewEnt (e : Ent) : Bool := decide (e.id.size ≤ 40) && !(decide (12 < e.cs.length) && decide (e.cs.length ≤ 20)) && decide (e.cs.length ≤ 24) && e.cs.all (fun c => decide (c.size ≤ 40))
def fewE (L : List Ent) : Bool := decide (L.length ≤ 12) && L.all fewEnt
theorem fewE_no {L : List Ent} {k : Nat} {e : Ent} (he : L[k]? = some e) (h : fewEnt e = false) : fewE L = false := by
  unfold fewE
  have : L.all fewEnt = false := by
    rw [Bool.eq_false_iff]
    intro q
    have := List.all_eq_true.1 q e (List.mem_of_getElem? he)
    rw [h] at this; cases this
  rw [this]; simp
set_option maxHeartbeats 4000000 in
set_option maxRecDepth 100000 in
theorem few39_any (ao : Option Addr) (ca : Nat) (L : List Ent) (w : World) (hA : L.length ≤ 1000 → Ents w ao L) (hl : L.length ≤ maxLen) :
    Calls Tryd.prog 24 #[.slice ao L.length ca] w fun e w' => e = .returned (.bool (fewE L)) ∧ w = w' := by
  unfold maxLen at hl
  obtain ⟨R, HR⟩ : ∃ R, Hid (fewE L = R) := ⟨_, hid rfl⟩
  rw [HR.out]
  generalize hn : L.length = n at *
  have HN := hid hn
  clear hn
  by_cases h12 : 12 < n
  · have hI : (12 : Int) < (n : Int) := by omega
    have hR : Hid (R = false) := by unfold Hid; rw [← HR.out]; unfold fewE; rw [HN.out, decide_eq_false (by omega)]; rfl
    go_enter Tryd.func24, Tryd.ntmps24
    go_wp2_with fail
    go_ret
    exact ⟨ret_bool hR.out.symm, rfl⟩
  have hI : ¬ (12 : Int) < (n : Int) := by omega
  have hE := hA (by omega)
  clear hA
  go_enter Tryd.func24, Tryd.ntmps24
  go_wp2_with fail
  go_loopw [3] (fun s3 wr => ∃ k : Nat, s3 = .int .i64 k ∧ k ≤ n ∧ Hid ((L.take k).all fewEnt = true) ∧ w = wr) (fun s3 _ => n - (intOf s3).toNat)
  case atStart => exact ⟨0, rfl, by omega, hid rfl, rfl⟩
  case round =>
    obtain ⟨k, rfl, hk, HP, rfl⟩ := hrel
    by_cases hkn : k < n
    · obtain ⟨e, he⟩ : ∃ x, L[k]? = some x := ⟨_, List.getElem?_eq_getElem (by rw [HN.out]; omega)⟩
      obtain ⟨b, off, ea, hb, a0, a1⟩ := hE.at he
      have hcs := hE.cs e (List.mem_of_getElem? he)
      have hcp := hE.hcap e (List.mem_of_getElem? he)
      subst ea
      have HE := hid he
      have HNO := hid (fun h => fewE_no he h)
      have HFE := hid (show fewEnt e = (decide (e.id.size ≤ 40) && !(decide (12 < e.cs.length) && decide (e.cs.length ≤ 20)) && decide (e.cs.length ≤ 24) && e.cs.all (fun c => decide (c.size ≤ 40))) from rfl)
      have hkI : (k : Int) < (n : Int) := by omega
      clear he hb hE
      obtain ⟨eid, eao, ecs, ecap⟩ := e
      simp only at a0 a1 hcs hcp HFE
      have hmx := hcp.2
      unfold maxLen at hmx
      generalize hcl : ecs.length = cl at *
      have HCL := hid hcl
      clear hcl
      by_cases h1 : 40 < eid.size
      · have h1I : (40 : Int) < (eid.size : Int) := by omega
        have hf : Hid (R = false) := by unfold Hid; rw [← HR.out]; exact HNO.out (by rw [HFE.out, decide_eq_false (by omega)]; rfl)
        go_wp2_with fail
        go_ret
        exact ⟨ret_bool hf.out.symm, by trivial⟩
      by_cases h2 : 12 < cl ∧ cl ≤ 20
      · have h1I : ¬ (40 : Int) < (eid.size : Int) := by omega
        have h2I : (12 : Int) < (cl : Int) := by omega
        have h3I : (cl : Int) ≤ 20 := by omega
        have hf : Hid (R = false) := by unfold Hid; rw [← HR.out]; exact HNO.out (by rw [HFE.out, decide_eq_true h2.1, decide_eq_true h2.2]; simp)
        clear h2
        go_wp2_with fail
        go_ret
        exact ⟨ret_bool hf.out.symm, by trivial⟩
      by_cases h4 : 24 < cl
      · have h1I : ¬ (40 : Int) < (eid.size : Int) := by omega
        have h2I : (12 : Int) < (cl : Int) := by omega
        have h3I : ¬ (cl : Int) ≤ 20 := by omega
        have h4I : (24 : Int) < (cl : Int) := by omega
        have hf : Hid (R = false) := by unfold Hid; rw [← HR.out]; exact HNO.out (by rw [HFE.out, decide_eq_false (show ¬ cl ≤ 24 by omega)]; simp)
        clear h2
        go_wp2_with fail
        go_ret
        exact ⟨ret_bool hf.out.symm, by trivial⟩
      have HS := hid (show fewEnt ⟨eid, eao, ecs, ecap⟩ = ecs.all (fun c => decide (c.size ≤ 40)) by
        rw [HFE.out, decide_eq_true (show eid.size ≤ 40 by omega), decide_eq_true (show cl ≤ 24 by omega)]
        by_cases q : 12 < cl
        · rw [decide_eq_false (show ¬ cl ≤ 20 by omega)]; simp
        · rw [decide_eq_false q]; simp)
      have h1I : ¬ (40 : Int) < (eid.size : Int) := by omega
      have h4I : ¬ (24 : Int) < (cl : Int) := by omega
      have hd : ((12 : Int) < (cl : Int) ∧ ¬ (cl : Int) ≤ 20) ∨ (¬ (12 : Int) < (cl : Int) ∧ True) := by
        by_cases q : 12 < cl
        · exact Or.inl ⟨by omega, by omega⟩
        · exact Or.inr ⟨by omega, trivial⟩
      clear h2
      rcases hd with ⟨g1, g2⟩ | ⟨g1, g2⟩
      all_goals
        go_upto_region 8 with fail
        clear g1 g2 h1 h4 h1I h4I
        go_wp2_with fail
        go_loopw [4] (fun s4 wr => ∃ j : Nat, s4 = .int .i64 j ∧ j ≤ cl ∧ Hid ((ecs.take j).all (fun c => decide (c.size ≤ 40)) = true) ∧ w = wr) (fun s4 _ => cl - (intOf s4).toNat)
        case atStart => exact ⟨0, rfl, by omega, hid rfl, by trivial⟩
        case round =>
          obtain ⟨j, rfl, hj, HJ, rfl⟩ := hrel
          by_cases hjc : j < cl
          · obtain ⟨c, hc⟩ : ∃ x, ecs[j]? = some x := ⟨_, List.getElem?_eq_getElem (by rw [HCL.out]; omega)⟩
            obtain ⟨b1, o1, e1, _, c1⟩ := hcs.cell j (.string c) (by rw [List.getElem?_map, hc]; rfl)
            subst e1
            have hjI : (j : Int) < (cl : Int) := by omega
            have HC := hid hc
            clear hc hcs
            by_cases hq : 40 < c.size
            · have hqI : (40 : Int) < (c.size : Int) := by omega
              have hf : Hid (R = false) := by
                unfold Hid; rw [← HR.out]
                refine HNO.out ?_
                rw [HS.out, Bool.eq_false_iff]
                intro h
                have := List.all_eq_true.1 h c (List.mem_of_getElem? HC.out)
                simp only [decide_eq_true_eq] at this
                omega
              go_wp2_with fail
              go_ret
              exact ⟨ret_bool hf.out.symm, by trivial⟩
            · have hqI : ¬ (40 : Int) < (c.size : Int) := by omega
              go_wp2_with fail
              go_roundw
              case rel =>
                refine ⟨j + 1, by go_num, by omega, hid ?_, by trivial⟩
                rw [List.take_add_one, HC.out, List.all_append, HJ.out]
                simp; omega
              case measure => simp [intOf]; omega
          · have hall := HJ.out
            rw [List.take_of_length_le (by rw [HCL.out]; omega)] at hall
            have HG := hid (HS.out.trans hall)
            clear hall
            go_wp2_with fail
            go_roundw
            case rel =>
              refine ⟨k + 1, by go_num, by omega, hid ?_, by trivial⟩
              rw [List.take_add_one, HE.out, List.all_append, HP.out]
              simp [HG.out]
            case measure => simp [intOf]; omega
    · have hall := HP.out
      rw [List.take_of_length_le (by rw [HN.out]; omega)] at hall
      go_wp2_with fail
      go_ret
      refine ⟨ret_bool ?_, by trivial⟩
      rw [← HR.out]
      unfold fewE
      rw [hall, HN.out, decide_eq_true (by omega)]
      rfl
def fewR (L : List Ent) (R : List ByteArray) : Bool := fewE L && (few01 R || (decide (1000 < R.length) && decide (R.length ≤ 1002)))
set_option maxHeartbeats 4000000 in
set_option maxRecDepth 100000 in
theorem few_any (ao bo : Option Addr) (ca cb : Nat) (L : List Ent) (R : List ByteArray) (w : World) (hA : L.length ≤ 1000 → Ents w ao L) (hl : L.length ≤ maxLen) (hR : SlV w bo (strsV R)) :
    Calls Tryd.prog 9 #[.slice ao L.length ca, .slice bo R.length cb] w fun e w' => e = .returned (.bool (fewR L R)) ∧ w = w' := by
  have hlm := hR.len
  unfold strsV at hlm
  rw [List.length_map] at hlm
  unfold maxLen at hlm
  obtain ⟨r, HR⟩ : ∃ r, Hid (fewR L R = r) := ⟨_, hid rfl⟩
  rw [HR.out]
  go_enter Tryd.func9, Tryd.ntmps9
  go_wp2_with fail
  refine (few39_any ao ca L w hA hl).mono ?_
  rintro e w' ⟨rfl, rfl⟩
  obtain ⟨b1, H1⟩ : ∃ b, Hid (fewE L = b) := ⟨_, hid rfl⟩
  rw [H1.out]
  cases b1
  · go_wp2_with fail
    go_ret
    exact ⟨ret_bool (by rw [← HR.out]; unfold fewR; rw [H1.out]; rfl), by trivial⟩
  go_wp2_with fail
  refine (few01_any bo cb R w hR).mono ?_
  rintro e w' ⟨rfl, rfl⟩
  obtain ⟨b2, H2⟩ : ∃ b, Hid (few01 R = b) := ⟨_, hid rfl⟩
  rw [H2.out]
  cases b2
  · by_cases h1 : 1000 < R.length
    · have h1I : (1000 : Int) < (R.length : Int) := by omega
      by_cases h2 : R.length ≤ 1002
      · have h2I : (R.length : Int) ≤ 1002 := by omega
        go_wp2_with fail
        go_ret
        exact ⟨ret_bool (by rw [← HR.out]; unfold fewR; rw [H1.out, H2.out, decide_eq_true h1, decide_eq_true h2]; rfl), by trivial⟩
      · have h2I : ¬ (R.length : Int) ≤ 1002 := by omega
        go_wp2_with fail
        go_ret
        exact ⟨ret_bool (by rw [decide_eq_false (show ¬ (R.length : Int) ≤ 1002 by omega), ← HR.out]; unfold fewR; rw [H1.out, H2.out, decide_eq_false h2, Bool.and_false]; rfl), by trivial⟩
    · have h1I : ¬ (1000 : Int) < (R.length : Int) := by omega
      go_wp2_with fail
      go_ret
      exact ⟨ret_bool (by rw [← HR.out]; unfold fewR; rw [H1.out, H2.out, decide_eq_false h1]; simp), by trivial⟩
  · go_wp2_with fail
    go_ret
    exact ⟨ret_bool (by rw [← HR.out]; unfold fewR; rw [H1.out, H2.out]; rfl), by trivial⟩
end Go.Proofs.YtgkgpfennlkcnaaDoor
