/- rig: valid telescopes and rigs -/
import Derived.Test.YthnkahilaampmaaDoorLexTok
import Derived.Test.YthnkahilaampmaaDoorMountMove
namespace Go.Proofs.YthnkahilaampmaaDoor
open Go.RowKit

/-- a string is an identifier -/
def idB (l : List UInt8) : Bool := decide ((lexL l).2.1 = 0) && match (lexL l).1 with
  | [t] => decide (t.k = 1) && decide (t.t = l)
  | _ => false

set_option maxHeartbeats 1000000 in
set_option maxRecDepth 100000 in
theorem ident_any (s : ByteArray) (w : World) (hs : s.size ≤ 1000000) : Calls Tryd.prog 26 #[.string s] w fun e w' => e = .returned (.bool (idB s.data.toList)) ∧ Below w.heap.size w w' := by
  have HLX := hid (fun w => lex_any2 s w hs)
  have hlen := lexL_len s.data.toList
  have hid' : idB s.data.toList = (decide ((lexL s.data.toList).2.1 = 0) && match (lexL s.data.toList).1 with | [t] => decide (t.k = 1) && decide (t.t = s.data.toList) | _ => false) := rfl
  generalize idB s.data.toList = R at *
  generalize (lexL s.data.toList).2.2 = pos at *
  generalize (lexL s.data.toList).2.1 = er at *
  generalize (lexL s.data.toList).1 = ts at *
  have HR := hid hid'
  clear hid'
  by_cases he : er = 0
  · subst he
    by_cases h1 : ts.length = 1
    · obtain ⟨t, rfl⟩ := List.length_eq_one_iff.1 h1
      clear h1
      cases hk : (t.k == 1) with
      | true =>
        have hk' := hid (show t.k = 1 by simpa using hk)
        go_enter Tryd.func26, Tryd.ntmps26
        go_wp2_with fail
        refine (HLX.out _).mono ?_
        rintro e w1 ⟨ao, cap, rfl, htk, hB1⟩
        obtain ⟨b, off, rfl, hb, c0, c1, _, _⟩ := htk.get (i := 0) (t := t) rfl
        simp only [Nat.mul_zero, Nat.zero_add, Nat.add_zero] at c0 c1
        go_wp2_with fail
        go_ret
        refine ⟨ret_bool ?_, hB1⟩
        rw [HR.out]
        simp [hk'.out, ByteArray.toList_eq]
        try rw [Bool.eq_iff_iff]; simp
      | false =>
        have hk' := hid (show ¬ t.k = 1 by simpa using hk)
        go_enter Tryd.func26, Tryd.ntmps26
        go_wp2_with fail
        refine (HLX.out _).mono ?_
        rintro e w1 ⟨ao, cap, rfl, htk, hB1⟩
        obtain ⟨b, off, rfl, hb, c0, c1, _, _⟩ := htk.get (i := 0) (t := t) rfl
        simp only [Nat.mul_zero, Nat.zero_add, Nat.add_zero] at c0 c1
        go_wp2_with fail
        go_ret
        refine ⟨ret_bool ?_, hB1⟩
        rw [HR.out]
        simp [hk'.out]
    · have hb1 : ((ts.length : Int) == 1) = false := by rw [beq_eq_false_iff_ne]; omega
      have H1 := hid h1
      clear h1
      go_enter Tryd.func26, Tryd.ntmps26
      go_wp2_with fail
      refine (HLX.out _).mono ?_
      rintro e w1 ⟨ao, cap, rfl, htk, hB1⟩
      go_wp2_with fail
      go_ret
      refine ⟨ret_bool ?_, hB1⟩
      rw [HR.out]
      split
      · exact absurd rfl H1.out
      · simp
  · have hb1 : (er == 0) = false := by rw [beq_eq_false_iff_ne]; exact he
    have H1 := hid he
    clear he
    go_enter Tryd.func26, Tryd.ntmps26
    go_wp2_with fail
    refine (HLX.out _).mono ?_
    rintro e w1 ⟨ao, cap, rfl, htk, hB1⟩
    go_wp2_with fail
    go_ret
    refine ⟨ret_bool ?_, hB1⟩
    rw [HR.out]
    simp [H1.out]

theorem within_any (n lo hi : Int) (w : World) : Calls Tryd.prog 20 #[.int .i64 n, .int .i64 lo, .int .i64 hi] w fun e w' => e = .returned (.bool (decide (lo ≤ n ∧ n ≤ hi))) ∧ w = w' := by
  by_cases h1 : lo ≤ n
  · by_cases h2 : n ≤ hi
    · rw [decide_eq_true ⟨h1, h2⟩]
      go_enter Tryd.func20, Tryd.ntmps20
      go_wp2
      go_ret
      exact ⟨ret_bool (by first | rfl | (simp [*])), rfl⟩
    · rw [decide_eq_false (fun h => h2 h.2)]
      go_enter Tryd.func20, Tryd.ntmps20
      go_wp2
      go_ret
      exact ⟨ret_bool (by first | rfl | (simp; omega) | (simp [*])), rfl⟩
  · rw [decide_eq_false (fun h => h1 h.1)]
    go_enter Tryd.func20, Tryd.ntmps20
    go_wp2
    go_ret
    exact ⟨ret_bool (by first | rfl | (simp; omega) | (simp [*])), rfl⟩

structure Tel where
  id : ByteArray
  site : Int
  speed : Int
  filters : Int
  d1 : Int
  d2 : Int
  d3 : Int
  d4 : Int
  d5 : Int
def telV (t : Tel) : Value := .agg #[.string t.id, .int .i64 t.site, .int .i64 t.speed, .int .i64 t.filters, .int .i64 t.d1, .int .i64 t.d2, .int .i64 t.d3, .int .i64 t.d4, .int .i64 t.d5]
structure RigT where
  at_ : Int
  filter : Int
  stuck : Bool
  deriving DecidableEq
def rigV (r : RigT) : Value := .agg #[.int .i64 r.at_, .int .i64 r.filter, .bool r.stuck]
def teleB (t : Tel) : Bool := idB t.id.data.toList && decide (0 ≤ t.site ∧ t.site ≤ 15) && decide (1 ≤ t.speed ∧ t.speed ≤ 20) && decide (1 ≤ t.filters ∧ t.filters ≤ 8)

set_option maxHeartbeats 1000000 in
theorem tele_any (t : Tel) (w : World) (hs : t.id.size ≤ 1000000) : Calls Tryd.prog 19 #[telV t] w fun e w' => e = .returned (.bool (teleB t)) ∧ Below w.heap.size w w' := by
  obtain ⟨id, a, b, c, d1, d2, d3, d4, d5⟩ := t
  have HI := hid (fun w => ident_any id w hs)
  unfold teleB telV
  dsimp only
  generalize idB id.data.toList = B1 at *
  have HW1 := hid (fun w => within_any a 0 15 w)
  have HW2 := hid (fun w => within_any b 1 20 w)
  have HW3 := hid (fun w => within_any c 1 8 w)
  generalize decide (0 ≤ a ∧ a ≤ 15) = B2 at *
  generalize decide (1 ≤ b ∧ b ≤ 20) = B3 at *
  generalize decide (1 ≤ c ∧ c ≤ 8) = B4 at *
  go_enter Tryd.func19, Tryd.ntmps19
  go_wp2_with fail
  have hbn := Blk.new w #[.string id, .int .i64 a, .int .i64 b, .int .i64 c, .int .i64 d1, .int .i64 d2, .int .i64 d3, .int .i64 d4, .int .i64 d5] 25
  refine (HI.out _).mono ?_
  rintro e w1 ⟨rfl, hB0⟩
  have hb1 := hbn.below hB0 hbn.lt
  have hB1 := unalloc hB0
  have c1 := hb1.cell 1
  have c2 := hb1.cell 2
  have c3 := hb1.cell 3
  simp only [List.getElem?_cons_succ, List.getElem?_cons_zero] at c1 c2 c3
  clear hB0 hbn hb1
  cases B1
  · go_wp2_with fail
    go_ret
    exact ⟨rfl, hB1⟩
  go_wp2_with fail
  refine (HW1.out _).mono ?_
  rintro e w' ⟨rfl, rfl⟩
  cases B2
  · go_wp2_with fail
    go_ret
    exact ⟨rfl, hB1⟩
  go_wp2_with fail
  refine (HW2.out _).mono ?_
  rintro e w' ⟨rfl, rfl⟩
  cases B3
  · go_wp2_with fail
    go_ret
    exact ⟨rfl, hB1⟩
  go_wp2_with fail
  refine (HW3.out _).mono ?_
  rintro e w' ⟨rfl, rfl⟩
  go_wp2_with fail
  go_ret
  exact ⟨ret_bool (by first | rfl | simp), hB1⟩

def telCells (t : Tel) : List Value := [.string t.id, .int .i64 t.site, .int .i64 t.speed, .int .i64 t.filters, .int .i64 t.d1, .int .i64 t.d2, .int .i64 t.d3, .int .i64 t.d4, .int .i64 t.d5]
def flB (t : Tel) (n : Int) : Bool := decide (0 ≤ n ∧ n ≤ t.filters - 1)
def telOk (t : Tel) : Prop := -9223372036854775808 ≤ t.filters ∧ t.filters ≤ 9223372036854775807
theorem flB_bd' {t : Tel} {a : Int} (h : flB t a = true) : 0 ≤ a ∧ a ≤ t.filters - 1 := by unfold flB at h; simpa using h
def turnB (t : Tel) (a b : Int) : Bool := teleB t && flB t a && flB t b
def turnV (t : Tel) (a b : Int) : Int := 2 * min (max (a - b) (b - a)) (t.filters - max (a - b) (b - a))
def tV (t : Tel) (a b : Int) : Int := if turnB t a b = true then turnV t a b else 0
def tE (t : Tel) (a b : Int) : Int := if turnB t a b = true then 0 else 1
theorem teleB_filters {t : Tel} (h : teleB t = true) : 1 ≤ t.filters ∧ t.filters ≤ 8 := by
  unfold teleB at h; simp at h; omega
theorem teleB_speed {t : Tel} (h : teleB t = true) : 1 ≤ t.speed ∧ t.speed ≤ 20 := by
  unfold teleB at h; simp at h; omega

set_option maxHeartbeats 2000000 in
set_option maxRecDepth 100000 in
theorem turn_any (t : Tel) (a b : Int) (w : World) (hs : t.id.size ≤ 1000000) : Calls Tryd.prog 11 #[telV t, .int .i64 a, .int .i64 b] w fun e w' => e = .returned (.tuple #[.int .i64 (tV t a b), .int .i64 (tE t a b)]) ∧ Below w.heap.size w w' := by
  have HT := hid (fun w => tele_any t w hs)
  have hf := fun h => teleB_filters (t := t) h
  have HW1 := hid (fun w => within_any a 0 (t.filters - 1) w)
  have HW2 := hid (fun w => within_any b 0 (t.filters - 1) w)
  have h1 : flB t a = decide (0 ≤ a ∧ a ≤ t.filters - 1) := rfl
  have h2 : flB t b = decide (0 ≤ b ∧ b ≤ t.filters - 1) := rfl
  unfold tV tE turnB turnV
  generalize teleB t = B1 at *
  rw [← h1] at HW1
  rw [← h2] at HW2
  generalize flB t a = B2 at *
  generalize flB t b = B3 at *
  obtain ⟨id, sa, sb, c, d1, d2, d3, d4, d5⟩ := t
  dsimp only at *
  unfold telV at *
  dsimp only at *
  have H1 := hid h1
  have H2 := hid h2
  clear h1 h2
  go_enter Tryd.func11, Tryd.ntmps11
  go_wp2_with fail
  have hbn := Blk.new w #[.string id, .int .i64 sa, .int .i64 sb, .int .i64 c, .int .i64 d1, .int .i64 d2, .int .i64 d3, .int .i64 d4, .int .i64 d5] 25
  refine (HT.out _).mono ?_
  rintro e w1 ⟨rfl, hB0⟩
  have c3 := (hbn.below hB0 hbn.lt).cell 3
  simp only [List.getElem?_cons_succ, List.getElem?_cons_zero] at c3
  have hB1 := unalloc hB0
  clear hB0 hbn
  cases B1
  · clear hf
    go_wp2_with fail
    go_ret2
    exact ⟨rfl, hB1⟩
  obtain ⟨f1, f2⟩ := hf rfl
  clear hf
  go_wp2_with fail
  refine (HW1.out _).mono ?_
  rintro e w' ⟨rfl, rfl⟩
  cases B2
  · go_wp2_with fail
    go_ret2
    exact ⟨rfl, hB1⟩
  go_wp2_with fail
  refine (HW2.out _).mono ?_
  rintro e w' ⟨rfl, rfl⟩
  cases B3
  · go_wp2_with fail
    go_ret2
    exact ⟨rfl, hB1⟩
  obtain ⟨a1, a2⟩ := of_decide_eq_true H1.out.symm
  obtain ⟨b1, b2⟩ := of_decide_eq_true H2.out.symm
  clear H1 H2
  go_wp2_with fail
  go_ret2
  refine ⟨?_, hB1⟩
  simp only [Bool.and_self, if_true]
  first | rfl | (congr 4 <;> omega) | trace_state
end Go.Proofs.YthnkahilaampmaaDoor
