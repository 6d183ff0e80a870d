/- calendar: all contracts for every input; the chapter's examples -/
import Derived.Test.YtlikkplipofghaaDoorCalParse
import Derived.Test.YtlikkplipofghaaDoorCalNext
namespace Go.Proofs.YtlikkplipofghaaDoor
open Go.RowKit

def mOk (m : Int) : Prop := 0 ≤ m ∧ m ≤ 38399
instance (m : Int) : Decidable (mOk m) := by unfold mOk; infer_instance
def nsOk (n s : Int) : Prop := (0 ≤ n ∧ n < 400) ∧ 0 ≤ s ∧ s < 96
instance (n s : Int) : Decidable (nsOk n s) := by unfold nsOk; infer_instance
def maOk (m a : Int) : Prop := mOk m ∧ 0 ≤ a ∧ a < 5760
instance (m a : Int) : Decidable (maOk m a) := by unfold maOk; infer_instance
def momV (n s : Int) : Int := if nsOk n s then n * 96 + s else 0
def momE (n s : Int) : Int := if nsOk n s then 0 else 1
def splN (m : Int) : Int := if mOk m then m / 96 else 0
def splS (m : Int) : Int := if mOk m then m % 96 else 0
def mE (m : Int) : Int := if mOk m then 0 else 1
def sidV (m : Int) : Int := if mOk m then sid m else 0
def textV (m : Int) : List UInt8 := if mOk m then textF m else []
def NextA (m a v e : Int) : Prop := (maOk m a ∧ NextR m a v e) ∨ (¬ maOk m a ∧ v = 0 ∧ e = 1)

theorem moment_any (n s : Int) (w : World) : Calls Tryd.prog 8 #[.int .i64 n, .int .i64 s] w fun e w' => e = .returned (.tuple #[.int .i64 (momV n s), .int .i64 (momE n s)]) ∧ w = w' := by
  unfold momV momE
  by_cases h : nsOk n s
  · rw [if_pos h, if_pos h]; exact moment_yes n s w h.1 h.2
  · rw [if_neg h, if_neg h]; exact moment_no n s w h
theorem split_any (m : Int) (w : World) : Calls Tryd.prog 10 #[.int .i64 m] w fun e w' => e = .returned (.tuple #[.int .i64 (splN m), .int .i64 (splS m), .int .i64 (mE m)]) ∧ w = w' := by
  unfold splN splS mE
  by_cases h : mOk m
  · rw [if_pos h, if_pos h, if_pos h]; exact split_yes m w h.1 h.2
  · rw [if_neg h, if_neg h, if_neg h]; exact split_no m w h
theorem sid_any (m : Int) (w : World) : Calls Tryd.prog 12 #[.int .i64 m] w fun e w' => e = .returned (.tuple #[.int .i64 (sidV m), .int .i64 (mE m)]) ∧ w = w' := by
  unfold sidV mE
  by_cases h : mOk m
  · rw [if_pos h, if_pos h]; exact sidereal_yes m w h.1 h.2
  · rw [if_neg h, if_neg h]; exact sidereal_no m w h
theorem text_any (m : Int) (w : World) (hL : Lay w) : Calls Tryd.prog 14 #[.int .i64 m] w fun e w' => e = .returned (.tuple #[.string ⟨(textV m).toArray⟩, .int .i64 (mE m)]) ∧ Below w.heap.size w w' := by
  unfold textV mE
  by_cases h : mOk m
  · rw [if_pos h, if_pos h]; exact text_yes m w h.1 h.2 hL
  · rw [if_neg h, if_neg h]
    refine (text_no m w h).mono ?_
    rintro e w' ⟨rfl, rfl⟩
    exact ⟨rfl, Below.refl _ _⟩
theorem next_any (m a : Int) (w : World) : Calls Tryd.prog 18 #[.int .i64 m, .int .i64 a] w fun e w' => ∃ v er, e = .returned (.tuple #[.int .i64 v, .int .i64 er]) ∧ NextA m a v er ∧ Below w.heap.size w w' := by
  by_cases h : maOk m a
  · refine (next_yes m a w h.1.1 h.1.2 h.2.1 h.2.2).mono ?_
    rintro e w' ⟨v, er, rfl, hr, hB⟩
    exact ⟨v, er, rfl, .inl ⟨h, hr⟩, hB⟩
  · refine (next_no m a w h).mono ?_
    rintro e w' ⟨rfl, hB⟩
    exact ⟨0, 1, rfl, .inr ⟨h, rfl, rfl⟩, hB⟩

theorem NextR.at {m a v e : Int} (h : NextR m a v e) (k : Nat) (hk : m + (k : Int) ≤ 38399) (hr : reachB (m + (k : Int)) a = true) (hn : ∀ j : Nat, j < k → reachB (m + (j : Int)) a = false) : v = m + (k : Int) ∧ e = 0 := by
  rcases h with ⟨rfl, k', rfl, h1, h2, h3⟩ | ⟨_, _, h3⟩
  · rcases Nat.lt_trichotomy k k' with h | h | h
    · rw [h3 k h] at hr; cases hr
    · subst h; exact ⟨rfl, rfl⟩
    · rw [hn k' h] at h2; cases h2
  · rw [h3 k hk] at hr; cases hr
theorem NextR.uniq {m a v e v' e' : Int} (h : NextR m a v e) (h' : NextR m a v' e') : v' = v ∧ e' = e := by
  rcases h with ⟨rfl, k, rfl, h1, h2, h3⟩ | ⟨rfl, rfl, h3⟩
  · exact h'.at k h1 h2 h3
  · rcases h' with ⟨rfl, k, rfl, h1, h2, _⟩ | ⟨rfl, rfl, _⟩
    · rw [h3 k h1] at h2; cases h2
    · exact ⟨rfl, rfl⟩
theorem NextA.uniq {m a v e v' e' : Int} (h : NextA m a v e) (h' : NextA m a v' e') : v' = v ∧ e' = e := by
  rcases h with ⟨ho, h⟩ | ⟨ho, rfl, rfl⟩
  · rcases h' with ⟨_, h'⟩ | ⟨hn, _⟩
    · exact h.uniq h'
    · exact absurd ho hn
  · rcases h' with ⟨hn, _⟩ | ⟨_, rfl, rfl⟩
    · exact absurd hn ho
    · exact ⟨rfl, rfl⟩

theorem text_1247 : textV 1247 = [49, 50, 46, 57, 53] := by decide +kernel
theorem parse_a : parseV [49, 50, 46, 57, 53] = 1247 ∧ parseE [49, 50, 46, 57, 53] = 0 := by decide +kernel
theorem parse_b : parseE [48, 49, 50, 46, 53] = 5 := by decide +kernel
theorem next_a (v e : Int) (h : NextA 0 0 v e) : v = 0 ∧ e = 0 := by
  rcases h with ⟨_, h⟩ | ⟨h, _⟩
  · exact h.at 0 (by decide) (by decide) (by intro j hj; omega)
  · exact absurd (by decide) h
theorem next_b (v e : Int) (h : NextA 1 0 v e) : v = 96 ∧ e = 0 := by
  rcases h with ⟨_, h⟩ | ⟨h, _⟩
  · have := h.at 95 (by decide) (by decide) (by decide +kernel)
    exact this
  · exact absurd (by decide) h
theorem next_c (v e : Int) (h : NextA 38399 0 v e) : v = 0 ∧ e = 9 := by
  rcases h with ⟨_, h⟩ | ⟨h, _⟩
  · rcases h with ⟨_, k, rfl, h1, h2, _⟩ | ⟨rfl, rfl, _⟩
    · have : k = 0 := by omega
      subst this
      exact absurd h2 (by decide)
    · exact ⟨rfl, rfl⟩
  · exact absurd (by decide) h

theorem parse_1 (w : World) (hL : Lay w) : Calls Tryd.prog 16 #[.string ⟨#[49, 50, 46, 57, 53]⟩] w fun e w' => e = .returned (.tuple #[.int .i64 1247, .int .i64 0]) ∧ Below w.heap.size w w' := by
  have h := parse_any ⟨#[49, 50, 46, 57, 53]⟩ w (by decide) hL
  rwa [show parseV (⟨#[49, 50, 46, 57, 53]⟩ : ByteArray).data.toList = 1247 from parse_a.1, show parseE (⟨#[49, 50, 46, 57, 53]⟩ : ByteArray).data.toList = 0 from parse_a.2] at h
theorem parse_2 (w : World) (hL : Lay w) : Calls Tryd.prog 16 #[.string ⟨#[48, 49, 50, 46, 53]⟩] w fun e w' => ∃ v, e = .returned (.tuple #[.int .i64 v, .int .i64 5]) ∧ Below w.heap.size w w' := by
  have h := parse_any ⟨#[48, 49, 50, 46, 53]⟩ w (by decide) hL
  rw [show parseE (⟨#[48, 49, 50, 46, 53]⟩ : ByteArray).data.toList = 5 from parse_b] at h
  exact h.mono fun e w' ⟨h1, h2⟩ => ⟨_, h1, h2⟩

set_option maxHeartbeats 4000000 in
set_option maxRecDepth 100000 in
theorem head_any (w : World) (hL : Lay w) : Calls Tryd.prog 7 #[] w fun e w' => e = .returned (.bool true) ∧ Below w.heap.size w w' := by
  have M1 := hid (show momV 12 95 = 1247 ∧ momE 12 95 = 0 by decide)
  have M2 := hid (show splN 1247 = 12 ∧ splS 1247 = 95 ∧ mE 1247 = 0 by decide)
  have M3 := hid (show sidV 96 = 16 ∧ mE 96 = 0 by decide)
  have M4 := hid (show sidV 1247 = 132 by decide)
  have M5 := hid (show momE 400 0 = 1 by decide)
  go_enter Tryd.func7, Tryd.ntmps7
  go_wp2_with fail
  refine (moment_any 12 95 _).mono ?_
  rw [M1.out.1, M1.out.2]
  rintro e w' ⟨rfl, rfl⟩
  go_wp2_with fail
  refine (split_any 1247 _).mono ?_
  rw [M2.out.1, M2.out.2.1, M2.out.2.2]
  rintro e w' ⟨rfl, rfl⟩
  go_wp2_with fail
  refine (sid_any 96 _).mono ?_
  rw [M3.out.1, M3.out.2]
  rintro e w' ⟨rfl, rfl⟩
  go_wp2_with fail
  refine (sid_any 1247 _).mono ?_
  rw [M4.out, M2.out.2.2]
  rintro e w' ⟨rfl, rfl⟩
  go_wp2_with fail
  refine (text_any 1247 _ hL).mono ?_
  rw [text_1247, M2.out.2.2]
  rintro e w1 ⟨rfl, hB1⟩
  have hL1 := hL.below hB1
  go_wp2_with fail
  refine (parse_1 _ hL1).mono ?_
  rintro e w2 ⟨rfl, hB2⟩
  have hL2 := hL1.below hB2
  go_wp2_with fail
  refine (parse_2 _ hL2).mono ?_
  rintro e w3 ⟨pv, rfl, hB3⟩
  go_wp2_with fail
  refine (next_any 0 0 _).mono ?_
  rintro e w4 ⟨v, er, rfl, hn, hB4⟩
  obtain ⟨rfl, rfl⟩ := next_a v er hn
  go_wp2_with fail
  refine (next_any 1 0 _).mono ?_
  rintro e w5 ⟨v, er, rfl, hn, hB5⟩
  obtain ⟨rfl, rfl⟩ := next_b v er hn
  go_wp2_with fail
  refine (next_any 38399 0 _).mono ?_
  rintro e w6 ⟨v, er, rfl, hn, hB6⟩
  obtain ⟨rfl, rfl⟩ := next_c v er hn
  go_wp2_with fail
  refine (moment_any 400 0 _).mono ?_
  rw [M5.out]
  rintro e w' ⟨rfl, rfl⟩
  go_wp2_with fail
  go_ret
  exact ⟨rfl, bthen hB1 (bthen hB2 (bthen hB3 (bthen hB4 (bthen hB5 hB6))))⟩
end Go.Proofs.YtlikkplipofghaaDoor
