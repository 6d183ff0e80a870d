/- unit: Text -/
import Derived.Test.YtmfoincmjpogmaaDoorUnitText
namespace Go.Proofs.YtmfoincmjpogmaaDoor
open Go.RowKit

def nmC : ByteArray := ⟨#[99, 111, 117, 110, 116, 115]⟩
def nmE : ByteArray := ⟨#[101, 108, 101, 99, 116, 114, 111, 110, 115]⟩
def nmS : ByteArray := ⟨#[115, 101, 99, 111, 110, 100, 115]⟩
/-- what unit.names holds -/
structure Names (w : World) : Prop where
  c0 : w.cell? ⟨0, 0, none⟩ = some (.string nmC)
  c1 : w.cell? ⟨0, 1, none⟩ = some (.string nmE)
  c2 : w.cell? ⟨0, 2, none⟩ = some (.string nmS)
theorem Names.below {w w' : World} (h : Names w) (hB : Below w.heap.size w w') : Names w' :=
  ⟨(hB.cell (block_lt_of_cell h.c0)).trans h.c0, (hB.cell (block_lt_of_cell h.c1)).trans h.c1, (hB.cell (block_lt_of_cell h.c2)).trans h.c2⟩

theorem unit_world (u : U) (w : World) : ∃ w0 : World, (w.alloc (.cells #[.int .i64 u.a, .int .i64 u.b, .int .i64 u.c] 23)) = w0 ∧ Blk w0 w.heap.size 23 (uCells u) ∧ Below w.heap.size w w0 :=
  ⟨_, rfl, Blk.new w _ _, below_alloc w _⟩

set_option maxHeartbeats 2000000 in
set_option maxRecDepth 100000 in
theorem text_bad (u : U) (w : World) (h1 : vB u = false) : Calls Tryd.prog 13 #[uV u] w fun e w' => e = .returned (.tuple #[.string ⟨#[]⟩, .int .i64 1]) ∧ Below w.heap.size w w' := by
  have hv := fun w => valid_any u w
  rw [h1] at hv
  have HV := hid hv
  clear hv
  unfold uV at *
  go_enter Tryd.func13, Tryd.ntmps13
  go_wp2_with fail
  refine (HV.out _).mono ?_
  rintro e w' ⟨rfl, hB1⟩
  have hB := unalloc hB1
  go_wp2_with fail
  go_ret2
  exact ⟨rfl, hB⟩

def facs (u : U) : Nat → List ByteArray
  | 0 => []
  | 1 => facS nmC u.a
  | 2 => facS nmC u.a ++ facS nmE u.b
  | _ => facS nmC u.a ++ facS nmE u.b ++ facS nmS u.c
theorem strs_len (l : List ByteArray) : (strs l).length = l.length := by simp [strs]
theorem facS_len (n : ByteArray) (x : Int) : (facS n x).length ≤ 1 := by
  unfold facS
  split
  · simp
  · split <;> simp
theorem facs_len (u : U) (k : Nat) : (strs (facs u k)).length ≤ 3 := by
  have h1 := facS_len nmC u.a
  have h2 := facS_len nmE u.b
  have h3 := facS_len nmS u.c
  unfold strs
  rw [List.length_map]
  match k with
  | 0 => simp [facs]
  | 1 => simp only [facs]; omega
  | 2 => simp only [facs, List.length_append]; omega
  | k + 3 => simp only [facs, List.length_append]; omega

theorem facS_size {nm : ByteArray} (hn : nm.size ≤ 10) {x : Int} (h0 : -100 ≤ x) (h1 : x ≤ 100) : ∀ s ∈ facS nm x, s.data.toList.length ≤ 100 := by
  intro s hs
  unfold facS at hs
  have hi := Lib.itoa_length_le x (by omega) (by omega)
  split at hs
  · simp at hs
  · split at hs
    · simp at hs; subst hs; rw [← Lib.size_eq]; omega
    · simp only [List.mem_singleton] at hs
      subst hs
      rw [← Lib.size_eq, ByteArray.size_append, ByteArray.size_append]
      have e1 : (⟨#[94]⟩ : ByteArray).size = 1 := rfl
      have e2 : (⟨(Lib.itoa x).toArray⟩ : ByteArray).size = (Lib.itoa x).length := by show (Lib.itoa x).toArray.size = _; simp
      omega
theorem lens_le (l : List (List UInt8)) (h : ∀ s ∈ l, s.length ≤ 100) : Lib.lens l ≤ 100 * l.length := by
  induction l with
  | nil => simp [Lib.lens]
  | cons a l ih =>
    have h1 := h a (by simp)
    have h2 := ih (fun s hs => h s (by simp [hs]))
    simp only [Lib.lens, List.map_cons, List.sum_cons, List.length_cons] at *
    omega
theorem facs_join (u : U) (h : vB u = true) : (Lib.join ((facs u 3).map (·.data.toList)) [32]).length ≤ 140737488355328 := by
  obtain ⟨⟨u1, u2⟩, ⟨u3, u4⟩, u5, u6⟩ := (vB_iff u).1 h
  have hall : ∀ s ∈ (facs u 3).map (·.data.toList), s.length ≤ 100 := by
    intro s hs
    rw [List.mem_map] at hs
    obtain ⟨b, hb, rfl⟩ := hs
    simp only [facs, List.mem_append] at hb
    rcases hb with (hb | hb) | hb
    · exact facS_size (by decide) (by omega) (by omega) b hb
    · exact facS_size (by decide) (by omega) (by omega) b hb
    · exact facS_size (by decide) (by omega) (by omega) b hb
  have hl := lens_le _ hall
  have h3 := facs_len u 3
  rw [strs_len] at h3
  have hm : ((facs u 3).map (·.data.toList)).length ≤ 3 := by rw [List.length_map]; exact h3
  generalize (facs u 3).map (·.data.toList) = L at *
  cases L with
  | nil => simp [Lib.join_nil]
  | cons x r =>
    rw [Lib.join_length]
    simp only [List.length_cons, List.length_nil] at *
    omega
/-- the canonical string -/
def textB (u : U) : ByteArray := if facs u 3 = [] then ⟨#[49]⟩ else ⟨(Lib.join ((facs u 3).map (·.data.toList)) [32]).toArray⟩

set_option maxHeartbeats 2000000 in
set_option maxRecDepth 100000 in
theorem text_good (u : U) (w : World) (h1 : vB u = true) (hL : Lay w) (hN : Names w) : Calls Tryd.prog 13 #[uV u] w fun e w' => e = .returned (.tuple #[.string (textB u), .int .i64 0]) ∧ Below w.heap.size w w' := by
  obtain ⟨X, HX⟩ : ∃ X, Hid (textB u = X) := ⟨_, hid rfl⟩
  rw [HX.out]
  have hv := fun w => valid_any u w
  have HE := hid (fun w => exps_any u w)
  rw [h1] at hv
  have HV := hid hv
  clear hv
  unfold uV at *
  go_enter Tryd.func13, Tryd.ntmps13
  go_wp2_with fail
  obtain ⟨w0, hw0, hu, hB⟩ := unit_world u w
  rw [hw0]
  clear hw0
  refine (HV.out _).mono ?_
  rintro e w' ⟨rfl, hB1⟩
  replace hu := (hu.below hB1 hu.lt).alloc (.cells #[.slice none 0 0] 44)
  have hf := Blk.new w' #[.slice none 0 0] 44
  replace hB := (hB.trans (hB1.mono hB.size)).alloc (by have := hB.size; have := hB1.size; omega) (.cells #[.slice none 0 0] 44)
  clear hB1
  have uc0 := hu.cell 0
  have uc1 := hu.cell 1
  have uc2 := hu.cell 2
  simp only [uCells, List.getElem?_cons_succ, List.getElem?_cons_zero] at uc0 uc1 uc2
  go_wp2_with fail
  clear uc0 uc1 uc2
  have hfb : w.heap.size ≤ w'.heap.size := by have := hB.size; have := hu.lt; simp at this; omega
  generalize w'.heap.size = fb at *
  refine (HE.out _).mono ?_
  generalize (w'.alloc (.cells #[.slice none 0 0] 44)) = w5 at *
  rintro e w6 ⟨rfl, hB1⟩
  replace hf := hf.below hB1 hf.lt
  replace hB := hB.trans (hB1.mono hB.size)
  clear hB1 hu
  go_wp2_with fail
  obtain ⟨⟨u1, u2⟩, ⟨u3, u4⟩, u5, u6⟩ := (vB_iff u).1 h1
  have hx0 := idx30 (.int .i64 u.a) (.int .i64 u.b) (.int .i64 u.c)
  have hx1 := idx31 (.int .i64 u.a) (.int .i64 u.b) (.int .i64 u.c)
  have hx2 := idx32 (.int .i64 u.a) (.int .i64 u.b) (.int .i64 u.c)
  have HLW := hid hL
  have HNW := hid hN
  clear hL hN
  go_loopw [14] (fun s14 wr => ∃ (k : Nat) (v : Value), s14 = .int .i64 k ∧ k ≤ 3 ∧ Blk wr fb 44 [v] ∧ wr.ownsRow (fb + 1) 9 1 v (strs (facs u k)).length (strs (facs u k)) ∧ Below w.heap.size w wr) (fun s14 _ => 3 - (intOf s14).toNat)
  case atStart => exact ⟨0, _, rfl, by omega, hf, World.ownsRow_nil _ _ _ _, hB⟩
  case round =>
    clear hf hB
    obtain ⟨k, v, rfl, hk, hf, hrow, hB⟩ := hrel
    have hL := HLW.out.below hB
    have hN := HNW.out.below hB
    have hflt := hf.lt
    have hlen := facs_len u k
    have HLT := hid (fun b (hb : v.ownBlock = some b) => show w.heap.size ≤ b by have := (hrow.lt b hb).1; omega)
    obtain rfl | rfl | rfl | rfl : k = 0 ∨ k = 1 ∨ k = 2 ∨ k = 3 := by omega
    · have hc := hN.c0
      go_wp2_with fail
      refine (text1_any nmC u.a fb (fb + 1) v (facs u 0) wr hL hf (by omega) (by omega) hrow (by omega) (by omega) (by decide)).mono ?_
      rintro e w7 ⟨rfl, v', hf', hrow', hch⟩  ;have hB7 : Below w.heap.size wr w7 := hch.toBelow hB.size (fun k hk => by rcases hk with rfl | hk; exact hfb; exact HLT.out k hk)  ;have hsz := hch.size  ;have hrow'' := hrow'  ;rw [← strs_len] at hrow''  ;go_wp2_with fail  ;go_roundw
      case rel => exact ⟨0 + 1, v', by go_num, by omega, hf', hrow'', hB.trans hB7⟩
      case measure => simp [intOf]
    · have hc := hN.c1
      go_wp2_with fail
      refine (text1_any nmE u.b fb (fb + 1) v (facs u 1) wr hL hf (by omega) (by omega) hrow (by omega) (by omega) (by decide)).mono ?_
      rintro e w7 ⟨rfl, v', hf', hrow', hch⟩  ;have hB7 : Below w.heap.size wr w7 := hch.toBelow hB.size (fun k hk => by rcases hk with rfl | hk; exact hfb; exact HLT.out k hk)  ;have hsz := hch.size  ;have hrow'' := hrow'  ;rw [← strs_len] at hrow''  ;go_wp2_with fail  ;go_roundw
      case rel => exact ⟨1 + 1, v', by go_num, by omega, hf', hrow'', hB.trans hB7⟩
      case measure => simp [intOf]
    · have hc := hN.c2
      go_wp2_with fail
      refine (text1_any nmS u.c fb (fb + 1) v (facs u 2) wr hL hf (by omega) (by omega) hrow (by omega) (by omega) (by decide)).mono ?_
      rintro e w7 ⟨rfl, v', hf', hrow', hch⟩  ;have hB7 : Below w.heap.size wr w7 := hch.toBelow hB.size (fun k hk => by rcases hk with rfl | hk; exact hfb; exact HLT.out k hk)  ;have hsz := hch.size  ;have hrow'' := hrow'  ;rw [← strs_len] at hrow''  ;go_wp2_with fail  ;go_roundw
      case rel => exact ⟨2 + 1, v', by go_num, by omega, hf', hrow'', hB.trans hB7⟩
      case measure => simp [intOf]
    · have hm : Mine (fb + 1) wr wr 9 v (strs (facs u 3)) := ⟨hrow, Below.refl _ _, by omega⟩
      have fc := hf.cell 0
      simp only [List.getElem?_cons_zero] at fc
      by_cases he : facs u 3 = []
      · have hX : X = ⟨#[49]⟩ := by rw [← HX.out]; unfold textB; rw [if_pos he]
        obtain ⟨ao, cap, hv, _⟩ := hm.slv
        rw [he] at hv
        simp only [strs, List.map_nil, List.length_nil] at hv
        subst hv hX
        clear hm hrow hlen hx0 hx1 hx2
        go_wp2_with fail
        go_ret2
        exact ⟨rfl, hB⟩
      · obtain ⟨g, cap, cur, hv, hg, hcur, hcap, hmax, hrd⟩ := hm.open (by unfold strs; simpa using he)
        have hgl := hcur.lt
        have hcells : ∀ (j : Nat) x, (facs u 3)[j]? = some x → wr.cell? ⟨g, 0 + j, none⟩ = some (.string x) := by
          intro j x hj
          have hjl := (List.getElem?_eq_some_iff.1 hj).1
          rw [hcur.cell, Nat.zero_add, hrd j (by rw [strs_len]; exact hjl)]
          simp [strs, hj]
        have hlen3 : (facs u 3).length ≤ 3 := by rw [← strs_len]; exact hlen
        have hpos : 0 < (facs u 3).length := List.length_pos_iff.2 he
        rw [strs_len] at hv hcap
        have hX : X = ⟨(Lib.join ((facs u 3).map (·.data.toList)) [32]).toArray⟩ := by rw [← HX.out]; unfold textB; rw [if_neg he]
        have HXX := hid hX
        have HJ := hid (fun hl => Tryd.strings_Join g 0 cap (facs u 3) ⟨#[32]⟩ wr hcells hgl (by omega) hcap hl)
        generalize hn3 : (facs u 3).length = n3 at *
        have hb : ((n3 : Int) == 0) = false := by rw [beq_eq_false_iff_ne]; omega
        subst hv
        clear hm hrow hlen hx0 hx1 hx2 hrd hcells hcur hX he
        go_wp2_with fail
        refine (HJ.out (facs_join u h1)).mono ?_
        rintro e w9 ⟨rfl, hB9⟩
        go_wp2_with fail
        go_ret2
        refine ⟨?_, hB.trans (hB9.mono hB.size)⟩
        rw [HXX.out]; rfl
end Go.Proofs.YtmfoincmjpogmaaDoor
