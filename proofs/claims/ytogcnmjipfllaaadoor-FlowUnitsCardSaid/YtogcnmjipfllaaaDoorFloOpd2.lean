/- flow: the parser: operand, whole -/
import Derived.Test.YtogcnmjipfllaaaDoorFloOpd
namespace Go.Proofs.YtogcnmjipfllaaaDoor
open Go.RowKit

theorem failR_bad {α : Type} (en : Nat) (e : Int) (ts : List Tok) : (failR en e ts : PR α) = .bad (failAt en e ts).1 (failAt en e ts).2 := rfl
theorem idx_lt {N : List ByteArray} {x : ByteArray} (h : ¬ Lib.idxOfS N x < 0) : (Lib.idxOfS N x).toNat < N.length ∧ ((Lib.idxOfS N x).toNat : Int) = Lib.idxOfS N x := by
  have hm := (Lib.idxOfS_nonneg_iff N x).1 (by omega)
  refine ⟨?_, by omega⟩
  have : ∀ (zs : List ByteArray) (i : Nat), Lib.idxFromS zs x i < i + zs.length := by
    intro zs
    induction zs with
    | nil => intro i; simp [Lib.idxFromS]; omega
    | cons z zs ih =>
      intro i
      have := ih (i + 1)
      simp only [Lib.idxFromS, List.length_cons]
      split <;> omega
  have h1 := this N 0
  unfold Lib.idxOfS at h ⊢
  omega
set_option maxHeartbeats 2000000 in
set_option maxRecDepth 100000 in
theorem opd_any (pb : Nat) (mask : Bool) (p : PT) (ts : List Tok) (N : List ByteArray) (S : List Stp) (w : World) (hP : PB w pb p ts) (hl : ts.length ≤ 1000000) (hNS : NS w pb p N S) :
    Calls Tryd.prog 56 #[pT pb, .bool mask] w (RPost pb p w (fun i => .int .i64 i) (opdF p.en N S mask ts)) := by
  cases hf : freeB ts with
  | false =>
    obtain ⟨no, nc, so, sc, h1, h2, h3, h4, h5, h6, h7, h8⟩ := hNS
    have hm : opdF p.en N S mask ts = .bad (failAt p.en 5 ts).1 (failAt p.en 5 ts).2 := by
      unfold opdF; rw [hf]; exact if_neg (by simp)
    rw [hm]
    refine (opd_bad pb mask p ts no _ nc w hP hl h1 hf rfl).mono ?_
    rintro e w' ⟨rfl, hB⟩
    exact ⟨rfl, Chg.ofBelow hB⟩
  | true =>
    obtain ⟨t, r, rfl⟩ : ∃ t r, ts = t :: r := by
      cases ts with
      | nil => cases hf
      | cons t r => exact ⟨t, r, rfl⟩
    have hm : opdF p.en N S mask (t :: r) = if Lib.idxOfS N ⟨t.t.toArray⟩ < 0 then failR p.en 7 (t :: r) else if mkB S (Lib.idxOfS N ⟨t.t.toArray⟩) ≠ mask then failR p.en 1 (t :: r) else .ok (Lib.idxOfS N ⟨t.t.toArray⟩) r := by
      unfold opdF; rw [hf]; exact if_pos rfl
    rw [hm]
    clear hm
    obtain ⟨no, nc, so, sc, hnv, hN, hsv, hS, h5, h6, hlen, h1000⟩ := hNS
    have HCF := hid (fun d os => Calls.regrown_of (free_yes pb p t r _ (hP.below (below_regrown w d os)) hl hf))
    have HCI := hid (fun d os => Calls.regrown_of (d := d) (os := os) (w := w) ((index_is (cap := nc) (s := ⟨t.t.toArray⟩) (SlV.below hN (below_regrown w d os)) rfl h1000 rfl).mono (fun e w' h => ⟨h.1, by rw [h.2]; exact Below.refl _ _⟩)))
    have HFA := hid (fun (e : Int) (w' : World) (hB : Below w.heap.size w w') => fail_is pb e p (t :: r) w' (hP.below hB) hl rfl)
    have HTK := hid (fun (w' : World) (hB : Below w.heap.size w w') => take_any pb p t r w' (hP.below hB))
    have HMK := hid (fun (i : Nat) (s : Stp) (hi : S[i]? = some s) (w' : World) (hB : Below w.heap.size w w') => makes_any pb p (t :: r) so sc S i s w' (hP.below hB) hsv (SlV.below hS hB) hi (by omega))
    obtain ⟨i, hi⟩ : ∃ i, Lib.idxOfS N ⟨t.t.toArray⟩ = i := ⟨_, rfl⟩
    have HIL := hid (fun h : ¬ i < 0 => (by subst hi; exact idx_lt h : i.toNat < N.length ∧ (i.toNat : Int) = i))
    rw [hi] at HCI ⊢
    clear hi
    have HLEN := hid hlen
    obtain ⟨ao, cap, hb, -, -, -, -⟩ := hP
    have c2 := hb.cell 2
    simp only [List.getElem?_cons_zero, List.getElem?_cons_succ] at c2
    rw [hnv] at c2
    have k2 := cell_regrown c2
    clear hb c2 hN hS h5 h6 hnv hsv h1000 hlen hl hf
    generalize N.length = nn at *
    obtain ⟨RS, hRS⟩ : ∃ RS, (if i < 0 then failR p.en 7 (t :: r) else if mkB S i ≠ mask then failR p.en 1 (t :: r) else .ok i r : PR Int) = RS := ⟨_, rfl⟩
    rw [hRS]
    have HRS := hid hRS
    clear hRS
    unfold pT at HCF HFA HTK HMK ⊢
    go_enter Tryd.func56, Tryd.ntmps56
    go_wp2_with fail
    refine wp_region_quiet_below (by kernel_rfl) (by kernel_rfl) ?_
    iterate 5 (first | go_big_quiet_step (fail) | quiet_step (fail))
    (first | go_big_quiet_step (exact HCF.out _ _) | quiet_step (exact HCF.out _ _))
    (first | go_big_quiet_step (exact HCI.out _ _) | quiet_step (exact HCI.out _ _))
    iterate 1 (first | go_big_quiet_step (fail) | quiet_step (fail))
    refine wpQuiet_nil ?_
    intro _ hw'
    obtain ⟨⟨dq, osq⟩, hw''⟩ := hw'
    subst hw''
    have hB := below_regrown w dq osq
    clear HCF HCI k2
    generalize Go.Sort.grow (redrawn w dq) osq = w1 at *
    by_cases h0 : i < 0
    · go_wp2_with fail
      refine (HFA.out 7 _ hB).mono ?_
      rintro e w2 ⟨rfl, rfl⟩
      refine ⟨rfl, ?_⟩
      rw [← HRS.out, if_pos h0]
      exact ⟨rfl, Chg.ofBelow hB⟩
    · replace HRS := hid (HRS.out.symm.trans (if_neg h0))
      obtain ⟨hj, hjI⟩ := HIL.out (Int.not_lt.1 h0)
      obtain ⟨s, hs⟩ : ∃ s, S[i.toNat]? = some s := ⟨_, List.getElem?_eq_getElem (by rw [← HLEN.out]; exact hj)⟩
      have hmk : mkB S i = (opr s.op).m := by unfold mkB; rw [hs]
      have HM := hid (HMK.out i.toNat s hs w1 hB)
      rw [hjI] at HM
      rw [hmk] at HRS
      clear HMK HIL hjI hj hs hmk HLEN
      generalize (opr s.op).m = m at *
      by_cases hmm : m = mask
      · replace HRS := hid (HRS.out.trans (if_neg (by simpa using hmm)))
        subst hmm
        have hbb : (m == m) = true := by simp
        go_wp2_with fail
        refine (HM.out).mono ?_
        rintro e w2 ⟨rfl, hB2⟩
        replace hB := hB.trans (hB2.mono hB.size)
        clear HM hB2
        go_wp2_with fail
        refine (HTK.out _ hB).mono ?_
        rintro e w3 ⟨rfl, hP3, hC3⟩
        go_wp2_with fail
        go_ret
        rw [HRS.out]
        exact ⟨rfl, hP3, (Chg.ofBelow hB).trans hC3⟩
      · replace HRS := hid (HRS.out.trans (if_pos (by simpa using hmm)))
        have hbb : (m == mask) = false := by simpa using hmm
        go_wp2_with fail
        refine (HM.out).mono ?_
        rintro e w2 ⟨rfl, hB2⟩
        replace hB := hB.trans (hB2.mono hB.size)
        clear HM hB2
        go_wp2_with fail
        refine (HFA.out 1 _ hB).mono ?_
        rintro e w3 ⟨rfl, rfl⟩
        refine ⟨rfl, ?_⟩
        rw [HRS.out]
        exact ⟨rfl, Chg.ofBelow hB⟩
end Go.Proofs.YtogcnmjipfllaaaDoor
