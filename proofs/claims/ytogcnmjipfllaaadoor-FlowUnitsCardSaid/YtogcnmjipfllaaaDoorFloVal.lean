/- flow: identifiers; what Valid says -/
import Derived.Test.YtogcnmjipfllaaaDoorFloParse
namespace Go.Proofs.YtogcnmjipfllaaaDoor
open Go.RowKit

/-- a string is an identifier -/
def idB (l : List UInt8) : Bool := decide ((lexL l).2.1 = 0) && match (lexL l).1 with
  | [t] => decide (t.k = 1) && decide (t.t = l)
  | _ => false

set_option maxHeartbeats 1000000 in
set_option maxRecDepth 100000 in
theorem ident_any (s : ByteArray) (w : World) (hs : s.size ≤ 1000000) : Calls Tryd.prog 18 #[.string s] w fun e w' => e = .returned (.bool (idB s.data.toList)) ∧ Below w.heap.size w w' := by
  have HLX := hid (fun w => lex_any2 s w hs)
  have hlen := lexL_len s.data.toList
  have hid' : idB s.data.toList = (decide ((lexL s.data.toList).2.1 = 0) && match (lexL s.data.toList).1 with | [t] => decide (t.k = 1) && decide (t.t = s.data.toList) | _ => false) := rfl
  generalize idB s.data.toList = R at *
  generalize (lexL s.data.toList).2.2 = pos at *
  generalize (lexL s.data.toList).2.1 = er at *
  generalize (lexL s.data.toList).1 = ts at *
  have HR := hid hid'
  clear hid'
  by_cases he : er = 0
  · subst he
    by_cases h1 : ts.length = 1
    · obtain ⟨t, rfl⟩ := List.length_eq_one_iff.1 h1
      clear h1
      cases hk : (t.k == 1) with
      | true =>
        have hk' := hid (show t.k = 1 by simpa using hk)
        go_enter Tryd.func18, Tryd.ntmps18
        go_wp2_with fail
        refine (HLX.out _).mono ?_
        rintro e w1 ⟨ao, cap, rfl, htk, hB1⟩
        obtain ⟨b, off, rfl, hb, c0, c1, _, _⟩ := htk.get (i := 0) (t := t) rfl
        simp only [Nat.mul_zero, Nat.zero_add, Nat.add_zero] at c0 c1
        go_wp2_with fail
        go_ret
        refine ⟨ret_bool ?_, hB1⟩
        rw [HR.out]
        simp [hk'.out, ByteArray.toList_eq]
        try rw [Bool.eq_iff_iff]; simp
      | false =>
        have hk' := hid (show ¬ t.k = 1 by simpa using hk)
        go_enter Tryd.func18, Tryd.ntmps18
        go_wp2_with fail
        refine (HLX.out _).mono ?_
        rintro e w1 ⟨ao, cap, rfl, htk, hB1⟩
        obtain ⟨b, off, rfl, hb, c0, c1, _, _⟩ := htk.get (i := 0) (t := t) rfl
        simp only [Nat.mul_zero, Nat.zero_add, Nat.add_zero] at c0 c1
        go_wp2_with fail
        go_ret
        refine ⟨ret_bool ?_, hB1⟩
        rw [HR.out]
        simp [hk'.out]
    · have hb1 : ((ts.length : Int) == 1) = false := by rw [beq_eq_false_iff_ne]; omega
      have H1 := hid h1
      clear h1
      go_enter Tryd.func18, Tryd.ntmps18
      go_wp2_with fail
      refine (HLX.out _).mono ?_
      rintro e w1 ⟨ao, cap, rfl, htk, hB1⟩
      go_wp2_with fail
      go_ret
      refine ⟨ret_bool ?_, hB1⟩
      rw [HR.out]
      split
      · exact absurd rfl H1.out
      · simp
  · have hb1 : (er == 0) = false := by rw [beq_eq_false_iff_ne]; exact he
    have H1 := hid he
    clear he
    go_enter Tryd.func18, Tryd.ntmps18
    go_wp2_with fail
    refine (HLX.out _).mono ?_
    rintro e w1 ⟨ao, cap, rfl, htk, hB1⟩
    go_wp2_with fail
    go_ret
    refine ⟨ret_bool ?_, hB1⟩
    rw [HR.out]
    simp [H1.out]



/-- an operand -/
def opndB (M : List Bool) (ok : Int) (ot : Bool) (k : Nat) (a : Int) : Bool :=
  if ok ≤ k then decide (a = 0) else (decide (0 ≤ a) && decide (a < M.length) && (M[a.toNat]? == some ot))
def stepB (M : List Bool) (s : Stp) : Bool := isO s.op && decide (0 ≤ s.n) && decide (s.n ≤ (opr s.op).x) && opndB M (opr s.op).k (opr s.op).t 0 s.a && opndB M (opr s.op).k (opr s.op).t 1 s.b
def maskL (S : List Stp) : List Bool := S.map (fun s => (opr s.op).m)
def stepsB : List Bool → List Stp → Bool
  | _, [] => true
  | M, s :: S => stepB M s && stepsB (M ++ [(opr s.op).m]) S
/-- what Valid says -/
def fvB (f : Flw) : Bool := idB f.name.data.toList && decide (1 ≤ f.ver) && decide (f.ver ≤ 99) && decide (1 ≤ f.steps.length) && decide (f.steps.length ≤ 40) && stepsB [] f.steps && ((maskL f.steps).getLast? == some true)
end Go.Proofs.YtogcnmjipfllaaaDoor
