/- retract: Supported, Tainted, Valid -/
import Derived.Test.YtgkgpfennlkcnaaDoorRetJud2
namespace Go.Proofs.YtgkgpfennlkcnaaDoor
open Go.RowKit

noncomputable def supR (L : List Ent) (R : List ByteArray) : List Bool × Int := if judB L R = true then (supL L R, 0) else ([], 1)
def taintP (L : List Ent) (R : List ByteArray) (e : Ent) : Prop := e.id ∉ R ∧ ¬ Sup (ps L) R e.id
open Classical in
noncomputable def taintB (L : List Ent) (R : List ByteArray) (e : Ent) : Bool := !(decide (e.id ∈ R)) && !(supB L R e.id)
noncomputable def taintL (L : List Ent) (R : List ByteArray) : List ByteArray := (L.filter (taintB L R)).map Ent.id
noncomputable def taintR (L : List Ent) (R : List ByteArray) : List ByteArray × Int := if judB L R = true then (taintL L R, 0) else ([], 1)
theorem supL_len (L : List Ent) (R : List ByteArray) : (supL L R).length = L.length := by simp [supL]
theorem supL_get {L : List Ent} {R : List ByteArray} {i : Nat} {e : Ent} (h : L[i]? = some e) : (supL L R)[i]? = some (supB L R e.id) := by unfold supL; rw [List.getElem?_map, h]; rfl
theorem goneL_get? {L : List Ent} {R : List ByteArray} {i : Nat} {e : Ent} (h : L[i]? = some e) : (goneL L R)[i]? = some (decide (e.id ∈ R)) := by unfold goneL; rw [List.getElem?_map, h]; rfl
def BoolsPost (r : List Bool × Int) (w : World) (e : Ending) (w' : World) : Prop := ∃ ao cap, e = .returned (.tuple #[.slice ao r.1.length cap, .int .i64 r.2]) ∧ SlV w' ao (bools r.1) ∧ Below w.heap.size w w'
def StrsPost (r : List ByteArray × Int) (w : World) (e : Ending) (w' : World) : Prop := ∃ ao cap, e = .returned (.tuple #[.slice ao r.1.length cap, .int .i64 r.2]) ∧ SlV w' ao (strsV r.1) ∧ Below w.heap.size w w' ∧ (ao = none → cap = 0)
theorem supp_any (ao ro : Option Addr) (cap rc : Nat) (L : List Ent) (R : List ByteArray) (w : World) (hE : Ents w ao L) (hS : Small L) (hRo : SlV w ro (strsV R)) (hR : R.length ≤ 100000) :
    Calls Tryd.prog 10 #[.slice ao L.length cap, .slice ro R.length rc] w (BoolsPost (supR L R) w) := by
  unfold supR
  by_cases hj : judB L R = true
  · rw [if_pos hj]
    have HJ := hid (jud_yes ao ro cap rc L R w hE hS hRo hj)
    have hl := supL_len L R
    have HL := hid hl
    clear hl
    generalize hn : L.length = n at *
    clear hn
    generalize R.length = m at *
    go_enter Tryd.func10, Tryd.ntmps10
    go_wp2_with fail
    refine HJ.out.mono ?_
    rintro e w1 ⟨gb, sb, rfl, _, hsb, hB⟩
    go_wp2_with fail
    go_ret2
    exact ⟨some ⟨sb, 0, none⟩, n, by show _ = Ending.returned (.tuple #[.slice (some ⟨sb, 0, none⟩) (supL L R).length n, .int .i64 0]); rw [HL.out]; rfl, hsb, hB⟩
  · rw [if_neg hj]
    have HJ := hid (jud_no ao ro cap rc L R w hE hS hR (by simpa using hj))
    clear hj
    generalize L.length = n at *
    generalize R.length = m at *
    go_enter Tryd.func10, Tryd.ntmps10
    go_wp2_with fail
    refine HJ.out.mono ?_
    rintro e w1 ⟨rfl, hB⟩
    go_wp2_with fail
    go_ret2
    exact ⟨none, 0, rfl, ⟨by simp [bools], by simp [bools]⟩, hB⟩
theorem gr_world' (w : World) (mb F n : Nat) : ∃ W : World, w.alloc (.cells #[.map (some mb), .slice (some ⟨F, 0, none⟩) n n] 50) = W ∧ Below w.heap.size w W := ⟨_, rfl, below_alloc w _⟩
theorem valid_any (ao : Option Addr) (cap : Nat) (L : List Ent) (w : World) (hE : Ents w ao L) (hS : Small L) : Calls Tryd.prog 20 #[.slice ao L.length cap] w fun e w' => e = .returned (.bool (validB L)) ∧ Below w.heap.size w w' := by
  have HR := hid (read_any ao cap L w hE hS)
  generalize L.length = n at *
  go_enter Tryd.func20, Tryd.ntmps20
  go_wp2_with fail
  refine HR.out.mono ?_
  rintro e w2 ⟨mb, F, rfl, -, hB1⟩
  go_wp2_with fail
  obtain ⟨w3, hw3, hBa⟩ := gr_world' w2 mb F n
  try rw [hw3]
  go_ret
  exact ⟨rfl, hB1.trans (hBa.mono hB1.size)⟩
theorem Tryd.ulStrs : Tryd.prog.underlying 23 = some (.slice 9) := by kernel_rfl
theorem Tryd.inStr : (Tryd.prog.info? 9).map (fun i => (i.zero, i.size, i.bytes)) = some (some (.string ByteArray.empty), 1, 16) := by kernel_rfl
set_option maxHeartbeats 2000000 in
set_option maxRecDepth 100000 in
theorem taint_any (ao ro : Option Addr) (cap rc : Nat) (L : List Ent) (R : List ByteArray) (w : World) (hE : Ents w ao L) (hS : Small L) (hRo : SlV w ro (strsV R)) (hR : R.length ≤ 100000) :
    Calls Tryd.prog 14 #[.slice ao L.length cap, .slice ro R.length rc] w (StrsPost (taintR L R) w) := by
  have hS1 := hS.1
  unfold taintR
  by_cases hj : judB L R = true
  · rw [if_pos hj]
    have HJ := hid (jud_yes ao ro cap rc L R w hE hS hRo hj)
    generalize hn : L.length = n at *
    have HN := hid hn
    clear hn
    generalize R.length = m at *
    clear hRo
    go_enter Tryd.func14, Tryd.ntmps14
    go_wp2_with fail
    refine HJ.out.mono ?_
    rintro e w1 ⟨gb, sb, rfl, hgb, hsb, hB⟩
    have hm0 := Mine.start (E := 9) (Below.refl w1.heap.size w1) (Nat.le_refl _)
    go_wp2_with fail
    go_loopw [9, 20] (fun s9 s20 wr => ∃ k : Nat, s20 = .int .i64 k ∧ k ≤ n ∧ Mine w1.heap.size w1 wr 9 s9 (strsV (((L.take k).filter (taintB L R)).map Ent.id))) (fun _ s20 _ => n - (intOf s20).toNat)
    case atStart => exact ⟨0, rfl, by omega, by simpa [strsV] using hm0⟩
    case round =>
      clear hm0
      obtain ⟨k, rfl, hk, hm⟩ := hrel
      by_cases hkn : k < n
      · obtain ⟨e, he⟩ : ∃ t, L[k]? = some t := ⟨_, List.getElem?_eq_getElem (by rw [HN.out]; omega)⟩
        have hBw := hm.below
        obtain ⟨b, off, ea, hb, a0, a1⟩ := (hE.below (hB.trans (hBw.mono hB.size))).at he
        subst ea
        obtain ⟨_, _, e1, _, cg⟩ := (hgb.below hBw).cell k (.bool (decide (e.id ∈ R))) (by unfold bools; rw [List.getElem?_map, goneL_get? he]; rfl)
        cases e1
        obtain ⟨_, _, e1, _, cs⟩ := (hsb.below hBw).cell k (.bool (supB L R e.id)) (by unfold bools; rw [List.getElem?_map, supL_get he]; rfl)
        cases e1
        have HT : Hid (((L.take (k + 1)).filter (taintB L R)).map Ent.id = ((L.take k).filter (taintB L R)).map Ent.id ++ if taintB L R e = true then [e.id] else []) := by
          unfold Hid
          rw [List.take_add_one, he, List.filter_append, List.map_append]
          by_cases h : taintB L R e = true <;> simp [h]
        have HLEN := hid (show (strsV (((L.take k).filter (taintB L R)).map Ent.id)).length ≤ k by
          unfold strsV
          rw [List.length_map, List.length_map]
          have := List.length_filter_le (taintB L R) (L.take k)
          rw [List.length_take] at this
          omega)
        have htb : taintB L R e = (!(decide (e.id ∈ R)) && !(supB L R e.id)) := by unfold taintB; congr
        have HTB := hid htb
        clear htb he hb a1
        simp only [Nat.zero_add] at cg cs
        generalize decide (e.id ∈ R) = g at *
        generalize supB L R e.id = s at *
        have hkI : (k : Int) < (n : Int) := by omega
        cases g with
        | true =>
          rw [HTB.out] at HT
          simp only [Bool.not_true, Bool.false_and, Bool.false_eq_true, if_false, List.append_nil] at HT
          go_wp2_with fail
          go_roundw
          case rel => exact ⟨k + 1, by go_num, by omega, by rw [HT.out]; exact hm⟩
          case measure => simp [intOf]; omega
        | false =>
          cases s with
          | true =>
            rw [HTB.out] at HT
            simp only [Bool.not_true, Bool.and_false, Bool.false_eq_true, if_false, List.append_nil] at HT
            go_wp2_with fail
            go_roundw
            case rel => exact ⟨k + 1, by go_num, by omega, by rw [HT.out]; exact hm⟩
            case measure => simp [intOf]; omega
          | false =>
            rw [HTB.out] at HT
            simp only [Bool.not_false, Bool.and_self, if_true] at HT
            have hlx := HLEN.out
            have hl1 : (strsV (((L.take k).filter (taintB L R)).map Ent.id)).length + 1 ≤ maxLen := by unfold maxLen; omega
            have hl2 : ((strsV (((L.take k).filter (taintB L R)).map Ent.id)).length + 1) * 16 ≤ 140737488355328 := by omega
            generalize ((L.take k).filter (taintB L R)).map Ent.id = X at *
            clear hlx
            go_wp2_with (at_builtin; refine wpl_app1 rfl _ _ 23 rfl 9 _ _ Tryd.ulStrs Tryd.inStr rfl _ _ _ _ hm rfl _ rfl rfl hl1 hl2 ?_; intro g1 cap1 w2 hm1 hg1 hB1 hat1)
            go_roundw
            case rel => exact ⟨k + 1, by go_num, by omega, by rw [HT.out]; simpa [strsV] using hm1⟩
            case measure => simp [intOf]; omega
      · have hke : L.take k = L := List.take_of_length_le (by rw [HN.out]; omega)
        rw [hke] at hm
        clear hke
        obtain ⟨ao', cap', rfl, hsl, _⟩ := hm.slv
        have HBm := hid hm.below
        have HSL := hid hsl
        have hnl : ao' = none → cap' = 0 := fun e => by
          subst e
          rcases hm.own.2 with ⟨e1, _⟩ | ⟨g, c, cur, e1, _⟩
          · injection e1
          · injection e1 with h1; cases h1
        have HNL := hid hnl
        clear hm hsl hnl
        go_wp2_with fail
        go_ret2
        refine ⟨ao', cap', ?_, HSL.out, hB.trans (HBm.out.mono hB.size), HNL.out⟩
        show Ending.returned (.tuple #[.slice ao' (strsV (taintL L R)).length cap', .int .i64 0]) = _
        unfold strsV
        rw [List.length_map]
  · rw [if_neg hj]
    have HJ := hid (jud_no ao ro cap rc L R w hE hS hR (by simpa using hj))
    clear hj
    generalize L.length = n at *
    generalize R.length = m at *
    go_enter Tryd.func14, Tryd.ntmps14
    go_wp2_with fail
    refine HJ.out.mono ?_
    rintro e w1 ⟨rfl, hB⟩
    go_wp2_with fail
    go_loopw [9, 20] (fun s9 s20 wr => s20 = .int .i64 0 ∧ s9 = .slice none 0 0 ∧ wr = w1) (fun _ s20 _ => 0)
    case atStart => exact ⟨rfl, rfl, rfl⟩
    case round =>
      obtain ⟨rfl, rfl, rfl⟩ := hrel
      go_wp2_with fail
      go_ret2
      exact ⟨none, 0, rfl, ⟨by simp [strsV], by simp [strsV]⟩, hB, fun _ => rfl⟩
end Go.Proofs.YtgkgpfennlkcnaaDoor
