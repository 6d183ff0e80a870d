/- flow: the parser: number; the reserved words -/
import Derived.Test.YtogcnmjipfllaaaDoorFloSt3
import Derived.Test.YtogcnmjipfllaaaDoorMapR
import Derived.Test.YtogcnmjipfllaaaDoorLibQ
namespace Go.Proofs.YtogcnmjipfllaaaDoor
open Go.RowKit

def numF (en : Nat) (lo hi : Int) : List Tok → PR Int
  | [] => .bad 6 en
  | t :: r => if t.k = 2 then (if t.n < lo ∨ hi < t.n then .bad 9 t.at_ else .ok t.n r) else .bad 5 t.at_
set_option maxHeartbeats 2000000 in
set_option maxRecDepth 100000 in
theorem num_any (pb : Nat) (lo hi : Int) (p : PT) (ts : List Tok) (w : World) (hP : PB w pb p ts) (hl : ts.length ≤ 1000000) :
    Calls Tryd.prog 36 #[pT pb, .int .i64 lo, .int .i64 hi] w (RPost pb p w (fun n => .int .i64 n) (numF p.en lo hi ts)) := by
  have hpl := hP.lt
  cases hs : seesB 2 [] ts with
  | false =>
    obtain ⟨⟨x, n⟩, hf⟩ : ∃ r, failAt p.en 5 ts = r := ⟨_, rfl⟩
    have hm : numF p.en lo hi ts = .bad x n := by
      cases ts with
      | nil => unfold failAt at hf; cases hf; rfl
      | cons t r =>
        unfold failAt at hf; cases hf
        refine if_neg ?_
        intro q
        simp [seesB, q] at hs
    rw [hm]
    unfold pT
    go_enter Tryd.func36, Tryd.ntmps36
    go_wp2_with fail
    refine (sees_is pb 2 [] p ts _ hP hs).mono ?_
    rintro e w1 ⟨rfl, rfl⟩
    go_wp2_with fail
    refine (fail_is pb 5 p ts _ hP hl hf).mono ?_
    rintro e w1 ⟨rfl, rfl⟩
    exact ⟨rfl, rfl, Chg.refl _ _⟩
  | true =>
    obtain ⟨t, r, rfl⟩ : ∃ t r, ts = t :: r := by
      cases ts with
      | nil => cases hs
      | cons t r => exact ⟨t, r, rfl⟩
    have hk : t.k = 2 := by
      unfold seesB at hs
      simpa using hs
    obtain ⟨ao, cap, hb, hT, h1, h2, h3⟩ := id hP
    obtain ⟨b, off, rfl, hlt, -, -, a2, -⟩ := Toks.get hT (i := 0) rfl
    have c0 := hb.cell 0
    simp only [List.getElem?_cons_zero, List.length_cons] at c0
    simp only [Nat.mul_zero, Nat.zero_add] at a2
    have hpos : (0 : Int) < ((r.length + 1 : Nat) : Int) := by omega
    have hp1 : 0 < r.length + 1 := by omega
    have HM : Hid (numF p.en lo hi (t :: r) = if t.n < lo ∨ hi < t.n then .bad 9 t.at_ else .ok t.n r) := if_pos hk
    have HP := hid hP
    clear hb hT h1 h2 h3 hlt
    generalize hrl : r.length + 1 = rl at *
    have hl2 : rl ≤ 1000000 := by rw [← hrl]; simpa using hl
    clear hrl
    unfold pT
    by_cases hlo : t.n < lo
    · rw [HM.out, if_pos (.inl hlo)]
      go_enter Tryd.func36, Tryd.ntmps36
      go_wp2_with fail
      refine (sees_is pb 2 [] p _ _ HP.out hs).mono ?_
      rintro e w1 ⟨rfl, rfl⟩
      go_wp2_with fail
      refine (fail_is pb 9 p _ _ HP.out hl rfl).mono ?_
      rintro e w1 ⟨rfl, rfl⟩
      exact ⟨rfl, rfl, Chg.refl _ _⟩
    · by_cases hhi : hi < t.n
      · rw [HM.out, if_pos (.inr hhi)]
        go_enter Tryd.func36, Tryd.ntmps36
        go_wp2_with fail
        refine (sees_is pb 2 [] p _ _ HP.out hs).mono ?_
        rintro e w1 ⟨rfl, rfl⟩
        go_wp2_with fail
        refine (fail_is pb 9 p _ _ HP.out hl rfl).mono ?_
        rintro e w1 ⟨rfl, rfl⟩
        exact ⟨rfl, rfl, Chg.refl _ _⟩
      · rw [HM.out, if_neg (by rintro (q | q); exact hlo q; exact hhi q)]
        go_enter Tryd.func36, Tryd.ntmps36
        go_wp2_with fail
        refine (sees_is pb 2 [] p _ _ HP.out hs).mono ?_
        rintro e w1 ⟨rfl, rfl⟩
        go_wp2_with fail
        refine (take_any pb p t r _ HP.out).mono ?_
        rintro e w2 ⟨rfl, hP2, hC2⟩
        obtain ⟨tk, tt, tn, ta⟩ := t
        unfold tokC
        have hfld : (Instr.field 82 (.agg #[.int .i64 tk, .string ⟨tt.toArray⟩, .int .i64 tn, .int .i64 ta]) 2).run Tryd.prog w2 = .ok (.int .i64 tn) w2 := by kernel_rfl
        clear HM hs hk c0 a2 hP HP
        go_wp2_with fail
        go_ret
        exact ⟨rfl, hP2, hC2⟩
end Go.Proofs.YtogcnmjipfllaaaDoor
