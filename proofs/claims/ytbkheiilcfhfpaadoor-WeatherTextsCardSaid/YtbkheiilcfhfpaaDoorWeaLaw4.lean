/- WeatherTexts -/
import Derived.Test.YtbkheiilcfhfpaaDoorWeaRd
import Derived.Test.YtbkheiilcfhfpaaDoorWeaOpen
import Derived.Test.YtbkheiilcfhfpaaDoorWeaSame
namespace Go.Proofs.YtbkheiilcfhfpaaDoor
open Go.RowKit

theorem str_extB {a b : ByteArray} (h : a.data.toList = b.data.toList) : a = b := ByteArray.ext (Array.toList_inj.1 h)
theorem wideL_step {st : List St} {k : Nat} {c : St} (h : st[k]? = some c) : (⟨(wideL (st.take (k + 1))).toArray⟩ : ByteArray) = ⟨(wideL (st.take k)).toArray⟩ ++ ((⟨#[9]⟩ : ByteArray) ++ ⟨c.2.1.toArray⟩ ++ (⟨#[32, 35, 32, 59, 10]⟩ : ByteArray)) := by
  apply str_extB
  rw [List.take_add_one, h]
  simp [wideL, wideT]
theorem wideT_app (a b : List St) : wideT (a ++ b) = wideT a ++ wideT b := by simp [wideT]
theorem wideT_take (st : List St) (k : Nat) : (wideT (st.take k)).length ≤ (wideT st).length := by
  conv => rhs; rw [← List.take_append_drop k st, wideT_app]
  simp
theorem wide_num {n : Int} (h : 0 ≤ n ∧ n ≤ 100000) : (wideT [(2, Lib.itoa n, n)]).length ≤ 27 := by
  have := itoa_len h
  simp [wideT]; omega
theorem wide_nums {s : Sp} (hf : formB s = true) : ∀ (os : List Nat), (∀ o ∈ os, o ∈ offsK s.k) → (wideT (numsS s os)).length ≤ 27 * os.length
  | [], _ => by simp [wideT, numsS]
  | o :: os, ho => by
    have ih := wide_nums hf os (fun x hx => ho x (List.mem_cons_of_mem _ hx))
    have hg := getB hf (ho o (List.mem_cons_self ..))
    have e : numsS s (o :: os) = [(2, Lib.itoa (s.get o), s.get o)] ++ numsS s os := rfl
    rw [e, wideT_app, List.length_append, List.length_cons]
    have := wide_num (n := s.get o) (by omega)
    omega
theorem wide_spell {s : Sp} (hf : formB s = true) : (wideT (strS s)).length ≤ 200 := by
  obtain ⟨h1, h2, _⟩ := momsB hf
  have a1 := wide_num (n := s.a) (by omega)
  have a2 := wide_num (n := s.b) (by omega)
  have a3 := wide_nums hf (offsK s.k) (fun _ h => h)
  have a4 := offsK_len s.k
  have a5 := kwL_len s.k
  have e : strS s = [(1, kwL s.k, 0)] ++ (numsS s (offsK s.k) ++ ([(1, wFrom, 0)] ++ ([(2, Lib.itoa s.a, s.a)] ++ ([(1, wUntil, 0)] ++ ([(2, Lib.itoa s.b, s.b)] ++ [(4, [59], 0)]))))) := rfl
  have b1 : (wideT [((1 : Int), kwL s.k, (0 : Int))]).length ≤ 13 := by simp [wideT]; omega
  have b2 : (wideT [((1 : Int), wFrom, (0 : Int))]).length = 10 := rfl
  have b3 : (wideT [((1 : Int), wUntil, (0 : Int))]).length = 11 := rfl
  have b4 : (wideT [((4 : Int), ([59] : List UInt8), (0 : Int))]).length = 7 := rfl
  rw [e]
  simp only [wideT_app, List.length_append]
  omega
theorem wide_len : ∀ {L : List Sp}, (∀ s ∈ L, formB s = true) → (wideT (strL L)).length ≤ 200 * L.length
  | [], _ => by simp [strL, wideT]
  | s :: L, h => by
    have e : strL (s :: L) = strS s ++ strL L := by simp [strL]
    have := wide_len (L := L) (fun x hx => h x (by simp [hx]))
    have := wide_spell (h s (by simp))
    rw [e, wideT_app, List.length_append, List.length_cons]; omega
theorem strL_ne3 (L : List Sp) : ∀ c ∈ strL L, c.1 ≠ 3 := by
  intro c hc
  simp only [strL, List.mem_flatMap] at hc
  obtain ⟨s, _, hc⟩ := hc
  simp only [strS, tailS, numsS, List.mem_cons, List.mem_append, List.mem_map, List.not_mem_nil, or_false] at hc
  rcases hc with rfl | ⟨o, _, rfl⟩ | rfl | rfl | rfl | rfl | rfl <;> simp
theorem size_of_list (l : List UInt8) : (⟨l.toArray⟩ : ByteArray).size = l.length := by show l.toArray.size = _; simp
theorem data_of_list (l : List UInt8) : (⟨l.toArray⟩ : ByteArray).data.toList = l := by simp
theorem parse_ok {l : List UInt8} {L : List Sp} (hl : l.length ≤ 5000) (h : parseL l = (L, 0, 0)) (w : World) : Calls Tryd.prog 14 #[.string ⟨l.toArray⟩] w fun e w' =>
    ∃ ao cap, e = .returned (.tuple #[.slice ao L.length cap, .int .i64 0, .int .i64 0]) ∧ Sps w' ao L ∧ Below w.heap.size w w' := parse_eq (s := ⟨l.toArray⟩) (by rw [size_of_list]; omega) (by rw [data_of_list]; exact h) w
set_option maxHeartbeats 4000000 in
set_option maxRecDepth 100000 in
theorem texts_walk (ao : Option Addr) (len cap : Nat) (L : List Sp) (text : ByteArray) (w : World) (hse : SpsArg w ao len cap L) (w2 : text.size ≤ maxLen) (hLay : Lay w) :
    Calls Tryd.prog 6 #[.slice ao len cap, .string text] w fun e w' => e = .returned (.bool true) ∧ Below w.heap.size w w' := by
  have hmx := hse.hmax
  have hcp := hse.hcap
  unfold maxLen at hmx w2
  by_cases h20 : 20 < len
  · have h20i : (20 : Int) < (len : Int) := by omega
    go_enter Tryd.func6, Tryd.ntmps6
    go_wp2_with fail
    refine (head_any w).mono ?_
    rintro e w4 ⟨rfl, hB⟩
    go_wp2_with fail
    go_ret
    exact ⟨rfl, hB⟩
  by_cases h2k : 2000 < text.size
  · have h2i : (2000 : Int) < (text.size : Int) := by omega
    have h20i : ¬ (20 : Int) < (len : Int) := by omega
    go_enter Tryd.func6, Tryd.ntmps6
    go_wp2_with fail
    refine (head_any w).mono ?_
    rintro e w4 ⟨rfl, hB⟩
    go_wp2_with fail
    go_ret
    exact ⟨rfl, hB⟩
  have hA := hse.sps (by omega)
  have HLE := hid hse.hlen
  have HP := hid (fun w => parse_rd text w (by omega))
  have HPL := parseL_len text.data.toList
  have HPV := hid (parseL_valid text.data.toList)
  have HPN := hid (parseL_none (l := text.data.toList))
  have HT := hid (fun (w : World) (h : Sps w ao L) (hy : Lay w) => (hse.hlen ▸ text_any ao cap L w h (by rw [hse.hlen]; omega) hy : Calls Tryd.prog 16 #[.slice ao len cap] w fun e w' => e = .returned (.tuple #[.string ⟨(textR L).1.toArray⟩, .int .i64 (textR L).2]) ∧ Below w.heap.size w w'))
  clear hse
  have h20i : ¬ (20 : Int) < (len : Int) := by omega
  have h2i : ¬ (2000 : Int) < (text.size : Int) := by omega
  generalize (parseL text.data.toList).2.2 = pn at *
  generalize (parseL text.data.toList).2.1 = pe at *
  generalize (parseL text.data.toList).1 = P at *
  go_enter Tryd.func6, Tryd.ntmps6
  go_wp2_with fail
  refine (head_any w).mono ?_
  rintro e w1 ⟨rfl, hB⟩
  go_wp2_with fail
  refine (HP.out _).mono ?_
  rintro e w3 ⟨po, pc, rfl, hPs, hB1⟩
  replace hB := hB.trans (hB1.mono hB.size)
  clear hB1
  go_upto_if 41 with fail
  go_cut [9, 10] from 42 to 51 (fun _ _ wx => Below w3.heap.size w3 wx)
  case first =>
    by_cases hp0 : pe = 0
    · obtain rfl := hp0
      have HT1 := hid (fun (w : World) (h : Sps w po P) (hy : Lay w) => text_any po pc P w h (by omega) hy)
      unfold textR at HT1
      rw [if_pos HPV.out] at HT1
      go_wp2_with fail
      refine (HT1.out _ hPs (hLay.below hB)).mono ?_
      rintro e w4 ⟨rfl, hB1⟩
      go_wp2_with fail
      go_meet
      case rel => exact hB1
    · have hp1 : (pe == 0) = false := by simpa using hp0
      obtain rfl := HPN.out hp0
      clear HPN HPV
      go_wp2_with fail
      go_meet
      case rel => exact Below.refl _ _
  case rest =>
  replace hB := hB.trans (hcut.mono hB.size)
  clear hcut hPs HPN HPV HP HPL
  by_cases hv : allB L = true
  · unfold textR at HT
    rw [if_pos hv] at HT
    have hform : ∀ s ∈ L, formB s = true := by
      unfold allB at hv
      simp only [Bool.and_eq_true, decide_eq_true_eq, List.all_eq_true] at hv
      exact hv.2
    have hrd := rd_text hform
    have htl := textL_len hform
    have hll := HLE.out
    have hbk := parse_st hv hrd (by omega)
    obtain ⟨k1, k2, k3⟩ := hrd.lex (by omega)
    have HLX := lex_any2 ⟨(textL L).toArray⟩
    rw [data_of_list] at HLX
    have hg1 := good_stR (p := 0) (l := textL L) (st := strL L) (hrd 0).2
    have hrw := rd_wideL (st := strL L) (fun c hc => ⟨strL_ne3 L c hc, hg1 c hc⟩)
    have hwl := wide_len hform
    have hwb := parse_st (l := wideL (strL L)) hv hrw (by unfold wideL; rw [List.length_append]; simp; omega)
    have HPB := hid (fun w => parse_ok (l := textL L) (by omega) hbk w)
    have HPW := hid (fun w => parse_ok (l := wideL (strL L)) (by unfold wideL; rw [List.length_append]; simp; omega) hwb w)
    have HLX2 := hid (fun w => HLX w (by rw [size_of_list]; omega))
    have hall : ∀ k, (⟨(wideL ((strL L).take k)).toArray⟩ : ByteArray).size ≤ 10000 := by
      intro k
      rw [size_of_list]
      unfold wideL
      have := wideT_take (strL L) k
      rw [List.length_append]; simp; omega
    have HALL := hid hall
    have HSM := hid (fun (bo : Option Addr) (ca cb : Nat) (w : World) (h1 : Sps w bo L) (h2 : Sps w ao L) => (hll ▸ sps_same bo ao ca cb L w h1 h2 (by omega) : Calls Tryd.prog 21 #[.slice bo len ca, .slice ao len cb] w fun e w' => e = .returned (.bool true) ∧ Below w.heap.size w w'))
    have HGT := hid (fun c hc => (hg1 c hc 0).len)
    clear hall hwb hwl hrw hg1 HLX hbk htl hrd hform hll
    have HST := hid k3
    clear k3
    have hl5 := lexL_len (textL L)
    generalize (lexL (textL L)).2.2 = ln at *
    generalize (lexL (textL L)).2.1 = le at *
    generalize (lexL (textL L)).1 = ts at *
    have hLn := HLE.out
    rw [hLn] at HPB HPW
    clear hLn
    subst k1 k2
    generalize hOwn : (⟨(textL L).toArray⟩ : ByteArray) = own at *
    clear hOwn
    go_wp2_with fail
    refine (HT.out _ (hA.below hB) (hLay.below hB)).mono ?_
    rintro e w4 ⟨rfl, hB1⟩
    replace hB := hB.trans (hB1.mono hB.size)  ;clear hB1  ;go_wp2_with fail
    refine (HPB.out _).mono ?_
    rintro e w5 ⟨bo, bc, rfl, hbk, hB1⟩
    replace hB := hB.trans (hB1.mono hB.size)  ;clear hB1  ;go_wp2_with fail
    refine (HLX2.out _).mono ?_
    rintro e w6 ⟨tko, tkc, rfl, htk, hB1⟩
    replace hbk := hbk.below hB1
    replace hB := hB.trans (hB1.mono hB.size)  ;clear hB1  ;go_wp2_with fail
    refine (HSM.out _ _ _ _ hbk (hA.below hB)).mono ?_
    rintro e w7 ⟨rfl, hB1⟩
    replace htk := htk.below hB1
    replace hB := hB.trans (hB1.mono hB.size)  ;clear hB1  ;go_wp2_with fail
    replace HALL := HALL
    have hTL : ts.length = (strL L).length := by have := congrArg List.length HST.out; rwa [List.length_map] at this
    have HTL := hid hTL
    clear hTL
    go_loopw [19, 20] (fun s19 s20 wr => ∃ k : Nat, s20 = .int .i64 k ∧ k ≤ ts.length ∧ s19 = .string ⟨(wideL ((strL L).take k)).toArray⟩ ∧ wr = w7) (fun _ s20 _ => ts.length - (intOf s20).toNat)
    case atStart => exact ⟨0, rfl, by omega, rfl, rfl⟩
    case round =>
      obtain ⟨k, rfl, hk, rfl, rfl⟩ := hrel
      by_cases hkl : k < ts.length
      · obtain ⟨t, ht⟩ : ∃ t, ts[k]? = some t := ⟨_, List.getElem?_eq_getElem hkl⟩
        have hc : (strL L)[k]? = some (stR t) := by rw [← HST.out, List.getElem?_map, ht]; rfl
        obtain ⟨b, off, ea, hb, a0, a1, a2, a3⟩ := Toks.get htk ht
        subst ea
        clear hb a0 a2 a3
        have hs1 := HALL.out k
        have hs2 := HALL.out (k + 1)
        have HW := hid (wideL_step hc)
        have htl := HGT.out _ (List.mem_of_getElem? hc)
        have hsz : (⟨t.t.toArray⟩ : ByteArray).size ≤ 400 := by rw [size_of_list]; exact htl
        rw [show off + (4 * k + 1) = off + k * 4 + 1 by omega] at a1
        simp only [stR] at HW
        clear ht hc htl hs2
        generalize (⟨(wideL ((strL L).take k)).toArray⟩ : ByteArray) = S at *
        generalize (⟨t.t.toArray⟩ : ByteArray) = V at *
        have z1 : ¬ 9223372036854775807 < 1 + V.size := by omega
        have z2 : ¬ 9223372036854775807 < 1 + V.size + 5 := by omega
        have z3 : ¬ 9223372036854775807 < S.size + (1 + V.size + 5) := by omega
        go_wp2_with fail
        go_roundw
        case rel => exact ⟨k + 1, by go_num, by omega, by rw [HW.out], by trivial⟩
        case measure => simp [intOf]; omega
      · obtain rfl : k = ts.length := by omega
        have hall : (strL L).take ts.length = strL L := List.take_of_length_le (by rw [HTL.out]; omega)
        rw [hall]
        clear hall HALL HST HGT
        generalize (⟨(wideL (strL L)).toArray⟩ : ByteArray) = wide at *
        go_wp2_with fail
        refine (HPW.out _).mono ?_
        rintro e w8 ⟨bo2, bc2, rfl, hbk2, hB1⟩
        replace hB := hB.trans (hB1.mono hB.size)  ;clear hB1  ;go_wp2_with fail
        refine (HSM.out _ _ _ _ hbk2 (hA.below hB)).mono ?_
        rintro e w9 ⟨rfl, hB1⟩
        replace hB := hB.trans (hB1.mono hB.size)  ;clear hB1  ;go_wp2_with fail
        go_ret
        exact ⟨ret_bool (by first | rfl | simp), hB⟩
  · unfold textR at HT
    rw [if_neg hv] at HT
    go_wp2_with fail
    refine (HT.out _ (hA.below hB) (hLay.below hB)).mono ?_
    rintro e w4 ⟨rfl, hB1⟩
    replace hB := hB.trans (hB1.mono hB.size)  ;clear hB1  ;go_wp2_with fail
    go_ret
    exact ⟨ret_bool (by first | rfl | simp), hB⟩
end Go.Proofs.YtbkheiilcfhfpaaDoor
