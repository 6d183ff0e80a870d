/- retract: identifiers; finding a string in a slice -/
import Derived.Test.YtgkgpfennlkcnaaDoorLexTok
import Derived.Test.YtgkgpfennlkcnaaDoorRetPure
import Derived.Test.YtgkgpfennlkcnaaDoorMapW
namespace Go.Proofs.YtgkgpfennlkcnaaDoor
open Go.RowKit

/-- a string is an identifier -/
def idB (l : List UInt8) : Bool := decide ((lexL l).2.1 = 0) && match (lexL l).1 with
  | [t] => decide (t.k = 1) && decide (t.t = l)
  | _ => false

set_option maxHeartbeats 1000000 in
set_option maxRecDepth 100000 in
theorem ident_any (s : ByteArray) (w : World) (hs : s.size ≤ 1000000) : Calls Tryd.prog 35 #[.string s] w fun e w' => e = .returned (.bool (idB s.data.toList)) ∧ Below w.heap.size w w' := by
  have HLX := hid (fun w => lex_any2 s w hs)
  have hlen := lexL_len s.data.toList
  have hid' : idB s.data.toList = (decide ((lexL s.data.toList).2.1 = 0) && match (lexL s.data.toList).1 with | [t] => decide (t.k = 1) && decide (t.t = s.data.toList) | _ => false) := rfl
  generalize idB s.data.toList = R at *
  generalize (lexL s.data.toList).2.2 = pos at *
  generalize (lexL s.data.toList).2.1 = er at *
  generalize (lexL s.data.toList).1 = ts at *
  have HR := hid hid'
  clear hid'
  by_cases he : er = 0
  · subst he
    by_cases h1 : ts.length = 1
    · obtain ⟨t, rfl⟩ := List.length_eq_one_iff.1 h1
      clear h1
      cases hk : (t.k == 1) with
      | true =>
        have hk' := hid (show t.k = 1 by simpa using hk)
        go_enter Tryd.func35, Tryd.ntmps35
        go_wp2_with fail
        refine (HLX.out _).mono ?_
        rintro e w1 ⟨ao, cap, rfl, htk, hB1⟩
        obtain ⟨b, off, rfl, hb, c0, c1, _, _⟩ := htk.get (i := 0) (t := t) rfl
        simp only [Nat.mul_zero, Nat.zero_add, Nat.add_zero] at c0 c1
        go_wp2_with fail
        go_ret
        refine ⟨ret_bool ?_, hB1⟩
        rw [HR.out]
        simp [hk'.out, ByteArray.toList_eq]
        try rw [Bool.eq_iff_iff]; simp
      | false =>
        have hk' := hid (show ¬ t.k = 1 by simpa using hk)
        go_enter Tryd.func35, Tryd.ntmps35
        go_wp2_with fail
        refine (HLX.out _).mono ?_
        rintro e w1 ⟨ao, cap, rfl, htk, hB1⟩
        obtain ⟨b, off, rfl, hb, c0, c1, _, _⟩ := htk.get (i := 0) (t := t) rfl
        simp only [Nat.mul_zero, Nat.zero_add, Nat.add_zero] at c0 c1
        go_wp2_with fail
        go_ret
        refine ⟨ret_bool ?_, hB1⟩
        rw [HR.out]
        simp [hk'.out]
    · have hb1 : ((ts.length : Int) == 1) = false := by rw [beq_eq_false_iff_ne]; omega
      have H1 := hid h1
      clear h1
      go_enter Tryd.func35, Tryd.ntmps35
      go_wp2_with fail
      refine (HLX.out _).mono ?_
      rintro e w1 ⟨ao, cap, rfl, htk, hB1⟩
      go_wp2_with fail
      go_ret
      refine ⟨ret_bool ?_, hB1⟩
      rw [HR.out]
      split
      · exact absurd rfl H1.out
      · simp
  · have hb1 : (er == 0) = false := by rw [beq_eq_false_iff_ne]; exact he
    have H1 := hid he
    clear he
    go_enter Tryd.func35, Tryd.ntmps35
    go_wp2_with fail
    refine (HLX.out _).mono ?_
    rintro e w1 ⟨ao, cap, rfl, htk, hB1⟩
    go_wp2_with fail
    go_ret
    refine ⟨ret_bool ?_, hB1⟩
    rw [HR.out]
    simp [H1.out]


/-- a string is in a list -/
theorem idx_any (ao : Option Addr) (cap : Nat) (ss : List ByteArray) (x : ByteArray) (w : World) (h : SlV w ao (ss.map Value.string)) (hl : ss.length ≤ 100000) :
    Calls Tryd.prog 40 #[.slice ao ss.length cap, .string x] w fun e w' => (∃ i : Int, e = .returned (.int .i64 i) ∧ (0 ≤ i ↔ x ∈ ss)) ∧ w = w' := by
  generalize hn : ss.length = len at *
  go_enter Tryd.func40, Tryd.ntmps40
  go_wp2_with fail
  go_loopw [8] (fun s8 wr => ∃ k : Nat, s8 = .int .i64 k ∧ k ≤ len ∧ Hid (x ∉ ss.take k) ∧ w = wr) (fun s8 _ => len - (intOf s8).toNat)
  case atStart => exact ⟨0, rfl, by omega, hid (by simp), rfl⟩
  case round =>
    obtain ⟨k, rfl, hk, HP, rfl⟩ := hrel
    by_cases hkl : k < len
    · obtain ⟨s, hs⟩ : ∃ t, ss[k]? = some t := ⟨_, List.getElem?_eq_getElem (by omega)⟩
      obtain ⟨b, off, ea, hb, c0⟩ := h.cell k (.string s) (by rw [List.getElem?_map, hs]; rfl)
      subst ea
      clear hb
      by_cases hx : x = s
      · have HX := hid hx
        clear hx
        have hq : (x.toList == s.toList) = true := by rw [HX.out]; exact beq_self_eq_true _
        clear hn
        go_wp2_with fail
        go_ret
        refine ⟨⟨k, rfl, ?_⟩, rfl⟩
        exact ⟨fun _ => by rw [HX.out]; exact List.mem_of_getElem? hs, fun _ => by omega⟩
      · have HX := hid hx
        clear hx
        have hq : (x.toList == s.toList) = false := by
          rw [beq_eq_false_iff_ne]; intro q; apply HX.out
          rw [ByteArray.toList_eq, ByteArray.toList_eq] at q
          exact ByteArray.ext (Array.toList_inj.1 q)
        clear hn
        go_wp2_with fail
        go_roundw
        case rel =>
          refine ⟨k + 1, by go_num, by omega, hid ?_, by trivial⟩
          rw [List.take_add_one, hs]
          simp only [Option.toList_some, List.mem_append, List.mem_singleton]
          rintro (q | q)
          · exact HP.out q
          · exact HX.out q
        case measure => simp [intOf]; omega
    · have hke : k = len := by omega
      subst hke
      have HM : Hid (x ∉ ss) := by have := HP.out; rw [List.take_of_length_le (by omega)] at this; exact hid this
      clear hn HP
      go_wp2_with fail
      go_ret
      refine ⟨⟨-1, rfl, ?_⟩, rfl⟩
      exact ⟨fun q => by omega, fun q => absurd q HM.out⟩
theorem cont_any (ao : Option Addr) (cap : Nat) (ss : List ByteArray) (x : ByteArray) (w : World) (h : SlV w ao (ss.map Value.string)) (hl : ss.length ≤ 100000) :
    Calls Tryd.prog 36 #[.slice ao ss.length cap, .string x] w fun e w' => e = .returned (.bool (decide (x ∈ ss))) ∧ w = w' := by
  have HI := hid (fun w h => idx_any ao cap ss x w h hl)
  have HD : Hid (∀ i : Int, (0 ≤ i ↔ x ∈ ss) → decide (0 ≤ i) = decide (x ∈ ss)) := hid (fun i h => by by_cases q : 0 ≤ i <;> simp [q, ← h])
  generalize hn : ss.length = len at *
  generalize decide (x ∈ ss) = R at *
  go_enter Tryd.func36, Tryd.ntmps36
  go_wp2_with fail
  refine (HI.out _ h).mono ?_
  rintro e w' ⟨⟨i, rfl, hi⟩, rfl⟩
  have HR := hid (HD.out i hi)
  clear hi HD HI
  go_wp2_with fail
  go_ret
  exact ⟨ret_bool (by rw [← HR.out]), rfl⟩
end Go.Proofs.YtgkgpfennlkcnaaDoor
