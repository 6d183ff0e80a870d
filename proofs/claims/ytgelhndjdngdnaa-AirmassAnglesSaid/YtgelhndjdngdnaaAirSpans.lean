/- airmass: the reference's windows, and comparing lists of spans -/
import Derived.Test.YtgelhndjdngdnaaAirWin
import Derived.Test.YtgelhndjdngdnaaAirRef
import Derived.Test.YtgelhndjdngdnaaLibN2
namespace Go.Proofs.Ytgelhndjdngdnaa
open Go.RowKit

/-- one slot, as the reference does it -/
def rStep (least : Int) (out : List (Int × Int)) (x : Int × Int) : List (Int × Int) :=
  if x.2 < least then out else
    match out.getLast? with
    | some (a, b) => if b = x.1 - 1 then out.dropLast ++ [(a, x.1)] else out ++ [(x.1, x.1)]
    | none => [(x.1, x.1)]
def rwinF (least : Int) (xs : List (Int × Int)) : List (Int × Int) := xs.foldl (rStep least) []
def slotsP (s t n : Int) (k : Nat) : List (Int × Int) := (List.range k).map fun (j : Nat) => ((j : Int), heightF s t (96 * n + (j : Int)))
theorem slotsP_succ (s t n : Int) (k : Nat) : slotsP s t n (k + 1) = slotsP s t n k ++ [((k : Int), heightF s t (96 * n + (k : Int)))] := by simp [slotsP, List.range_succ]
theorem rwinF_snoc (least : Int) (xs : List (Int × Int)) (x : Int × Int) : rwinF least (xs ++ [x]) = rStep least (rwinF least xs) x := by simp [rwinF]
theorem rStep_len (least : Int) (out : List (Int × Int)) (x : Int × Int) : (rStep least out x).length ≤ out.length + 1 := by
  unfold rStep; split
  · omega
  · split
    · split <;> simp
    · simp
theorem spanCells_len (l : List (Int × Int)) : (spanCells l).length = l.length * 2 := by
  induction l with
  | nil => rfl
  | cons a l ih => simp [spanCells] at ih ⊢; omega
theorem spanCells_get (l : List (Int × Int)) (i : Nat) (a : Int × Int) (h : l[i]? = some a) : (spanCells l)[2 * i]? = some (.int .i64 a.1) ∧ (spanCells l)[2 * i + 1]? = some (.int .i64 a.2) := by
  induction l generalizing i with
  | nil => simp at h
  | cons b l ih =>
    cases i with
    | zero => simp at h; subst h; simp [spanCells]
    | succ i => 
      simp only [List.getElem?_cons_succ] at h
      have := ih i h
      have e : 2 * (i + 1) = 2 * i + 1 + 1 := by omega
      simpa [spanCells, e] using this
theorem spanCells_set (pre : List (Int × Int)) (a b c : Int) : (spanCells (pre ++ [(a, b)])).set (2 * pre.length + 1) (.int .i64 c) = spanCells (pre ++ [(a, c)]) := by
  rw [spanCells_snoc, spanCells_snoc, List.set_append, if_neg (by rw [spanCells_len]; omega), spanCells_len, show 2 * pre.length + 1 - pre.length * 2 = 1 by omega]
  rfl

/-- a list of spans that can be read -/
def SpV (w : World) (v : Value) (l : List (Int × Int)) : Prop := ∃ ao cap, v = .slice ao l.length cap ∧ SlV w ao (spanCells l)
theorem SpV.below {w w' : World} {v : Value} {l : List (Int × Int)} (h : SpV w v l) (hB : Below w.heap.size w w') : SpV w' v l := by
  obtain ⟨ao, cap, e, h⟩ := h
  exact ⟨ao, cap, e, h.below hB⟩

set_option maxHeartbeats 2000000 in
theorem rwindows_yes (s t nn least : Int) (w : World) (hex : 0 ≤ s ∧ s < 16 ∧ 0 ≤ t ∧ t < 512) (hn : 0 ≤ nn ∧ nn < 400) :
    Calls Try.prog 18 #[.int .i64 s, .int .i64 t, .int .i64 nn, .int .i64 least] w fun e w' => ∃ v, e = .returned (.tuple #[v, .int .i64 0]) ∧
      w'.ownsRow w.heap.size 39 2 v (rwinF least (slotsP s t nn 96)).length (spanCells (rwinF least (slotsP s t nn 96))) ∧ Below w.heap.size w w' := by
  have HH := hid (fun k (w : World) (h0 : 0 ≤ k) (h1 : k < 96) => rheight_yes s t (96 * nn + k) w hex (by omega) (by omega))
  obtain ⟨a, b, c, d⟩ := hex
  have HT := hid (fun w => rtile_yes t w c d)
  obtain ⟨n0, n1⟩ := hn
  have c1 : ¬ s < 0 := by omega
  have c2 : ¬ 15 < s := by omega
  have c3 : ¬ nn < 0 := by omega
  have c4 : ¬ 399 < nn := by omega
  go_enter Try.func18, Try.ntmps18
  go_wp2_with (first | (go_at_call 30; refine (HT.out _).mono ?_; rintro e w' ⟨rfl, rfl⟩))
  go_loopw [10, 11] (fun s8 s9 wr => ∃ k : Nat, s9 = .int .i64 k ∧ k ≤ 96 ∧ MineN 2 w.heap.size w wr 39 s8 (rwinF least (slotsP s t nn k)).length (spanCells (rwinF least (slotsP s t nn k))) ∧ (rwinF least (slotsP s t nn k)).length ≤ k) (fun _ s9 _ => 96 - (intOf s9).toNat)
  case atStart => exact ⟨0, rfl, by omega, MineN.start (Below.refl _ w) (Nat.le_refl _), by simp [slotsP, rwinF]⟩
  case round =>
    obtain ⟨k, rfl, hk, hm, hl⟩ := hrel
    by_cases hlt : k < 96
    · have hI1 : (k : Int) < 96 := by omega
      have HS := hid (slotsP_succ s t nn k)
      have hw := rwinF_snoc least (slotsP s t nn k) ((k : Int), heightF s t (96 * nn + (k : Int)))
      rw [← HS.out] at hw
      have HW := hid hw
      clear hw
      have HC := hid (HH.out (k : Int) · (by omega) hI1)
      obtain ⟨out, ho⟩ : ∃ out, rwinF least (slotsP s t nn k) = out := ⟨_, rfl⟩
      rw [ho] at hm hl HW
      clear ho
      generalize heightF s t (96 * nn + (k : Int)) = h at *
      obtain ⟨ao, cap, rfl, hsh⟩ := hm.shape
      by_cases hh : h < least
      · have hst : rwinF least (slotsP s t nn (k + 1)) = out := by rw [HW.out, rStep, if_pos hh]
        have HST := hid hst
        clear hst hsh
        go_wp2_with (first | (go_at_call 14; refine (HC.out _).mono ?_; rintro e w' ⟨rfl, rfl⟩))
        go_roundw
        case rel => exact ⟨k + 1, by go_num, by omega, by rw [HST.out]; exact hm, by rw [HST.out]; omega⟩
        case measure => simp [intOf] <;> omega
      · obtain ⟨n, hn⟩ : ∃ n, out.length = n := ⟨_, rfl⟩
        rw [hn] at hm hl hsh ⊢
        have hnl : n ≤ 96 := by omega
        have HN := hid hn
        clear hn
        by_cases hz : 0 < n
        · obtain ⟨pre, ⟨x, y⟩, hpre⟩ : ∃ pre z, out = pre ++ [z] := by
            rcases List.eq_nil_or_concat out with e | ⟨pre, z, e⟩
            · have := HN.out; rw [e] at this; simp at this; omega
            · exact ⟨pre, z, by rw [e]; simp⟩
          have hpl : n - 1 = pre.length := by have := HN.out; rw [hpre] at this; simp at this; omega
          obtain ⟨g, cap', cur, hv, hg, hb, h4, h5, h6, h7⟩ := hm.open hz
          obtain ⟨rfl, -, rfl⟩ : ao = some ⟨g, 0, none⟩ ∧ n = n ∧ cap = cap' := by cases hv; exact ⟨rfl, rfl, rfl⟩
          have hy : (spanCells out)[2 * pre.length + 1]? = some (.int .i64 y) := (spanCells_get out pre.length (x, y) (by rw [hpre]; simp)).2
          have cy : wr.cell? ⟨g, (n - 1) * 2 + 1, none⟩ = some (.int .i64 y) := by
            rw [hb.cell, h7 _ (by have := (List.getElem?_eq_some_iff.1 hy).1; omega), ← hy]; congr 1; omega
          have fy := hb.free ((n - 1) * 2 + 1)
          have HP := hid hpre
          have HPL := hid hpl
          clear hpre hpl hv h7 hy h6
          by_cases hyk : y = (k : Int) - 1
          · have hst : rwinF least (slotsP s t nn (k + 1)) = pre ++ [(x, (k : Int))] := by rw [HW.out, rStep, if_neg hh, HP.out]; simp [hyk]
            have HST := hid hst
            have HY := hid hyk
            clear hst hsh
            subst hyk
            go_wp2_with (first | (go_at_call 14; refine (HC.out _).mono ?_; rintro e w' ⟨rfl, rfl⟩))
            go_roundw
            case rel =>
              refine ⟨k + 1, by go_num, by omega, ?_, ?_⟩
              · rw [HST.out]
                have h9 := hm.put ((n - 1) * 2 + 1) (.int .i64 (k : Int))
                have e1 : (n - 1) * 2 + 1 = 2 * pre.length + 1 := by have := HPL.out; omega
                have e2 : (pre ++ [(x, (k : Int))]).length = n := by have := HPL.out; simp; omega
                rw [e2, ← spanCells_set pre x ((k : Int) - 1) (k : Int), ← HP.out, ← e1]
                exact h9
              · rw [HST.out]; have := HPL.out; simp; omega
            case measure => simp [intOf] <;> omega
          · have hst : rwinF least (slotsP s t nn (k + 1)) = out ++ [((k : Int), (k : Int))] := by rw [HW.out, rStep, if_neg hh, HP.out]; simp [hyk]
            have HST := hid hst
            clear hst hsh
            go_wp2_with (first | (go_at_call 14; refine (HC.out _).mono ?_; rintro e w' ⟨rfl, rfl⟩) | (at_builtin; refine wpl_appN rfl _ _ 28 rfl 39 _ 2 16 Try.underlying28 Try.info39 rfl (by decide) _ _ _ _ _ hm rfl _ rfl (by simp [Value.oneCell']) rfl  (by unfold maxLen; omega) (by omega) ?_; intro g1 cap1 w1 hm1 hg1 hB1 hat1))
            go_roundw
            case rel =>
              refine ⟨k + 1, by go_num, by omega, ?_, ?_⟩
              · rw [HST.out, spanCells_snoc]; simp only [List.length_append, List.length_cons, List.length_nil, HN.out]; exact hm1
              · rw [HST.out]; simp only [List.length_append, List.length_cons, List.length_nil, HN.out]; omega
            case measure => simp [intOf] <;> omega
        · have hst : rwinF least (slotsP s t nn (k + 1)) = out ++ [((k : Int), (k : Int))] := by
            rw [HW.out, rStep, if_neg hh]
            have : out = [] := List.eq_nil_of_length_eq_zero (by have := HN.out; omega)
            rw [this]; rfl
          have HST := hid hst
          clear hst hsh
          go_wp2_with (first | (go_at_call 14; refine (HC.out _).mono ?_; rintro e w' ⟨rfl, rfl⟩) | (at_builtin; refine wpl_appN rfl _ _ 28 rfl 39 _ 2 16 Try.underlying28 Try.info39 rfl (by decide) _ _ _ _ _ hm rfl _ rfl (by simp [Value.oneCell']) rfl  (by unfold maxLen; omega) (by omega) ?_; intro g1 cap1 w1 hm1 hg1 hB1 hat1))
          go_roundw
          case rel =>
            refine ⟨k + 1, by go_num, by omega, ?_, ?_⟩
            · rw [HST.out, spanCells_snoc]; simp only [List.length_append, List.length_cons, List.length_nil, HN.out]; exact hm1
            · rw [HST.out]; simp only [List.length_append, List.length_cons, List.length_nil, HN.out]; omega
          case measure => simp [intOf] <;> omega
    · obtain rfl : k = 96 := by omega
      go_wp2
      go_ret2
      exact ⟨_, rfl, hm.own, hm.below⟩
end Go.Proofs.Ytgelhndjdngdnaa
