/- RetractSupports: chained -/
import Derived.Test.YtgkgpfennlkcnaaDoorRetSups
namespace Go.Proofs.YtgkgpfennlkcnaaDoor
open Go.RowKit

set_option maxHeartbeats 4000000 in
set_option maxRecDepth 100000 in
theorem chained_yes (ao co : Option Addr) (ca cc : Nat) (E : List Ent) (x : List ByteArray) (s : ByteArray) (w : World) (hE : Ents w ao E) (hl : E.length ≤ 1000) (hd : Dist (ps E)) (hx : SlV w co (strsV x)) (hxs : x.getLast? = some s) (hlk : ∀ i, i < x.length → linkAt (ps E) x i) (hcs : ∀ e ∈ E, e.cs.length ≤ 1000) :
    Calls Tryd.prog 13 #[.slice ao E.length ca, .slice co x.length cc, .string s] w fun e w' => e = .returned (.bool true) ∧ Below w.heap.size w w' := by
  have hm := hx.len
  unfold strsV maxLen at hm
  rw [List.length_map] at hm
  have hpos : 0 < x.length := by
    cases x with
    | nil => simp at hxs
    | cons _ _ => simp
  rw [List.getLast?_eq_getElem?] at hxs
  generalize hn : x.length = n at *
  have HN := hid hn
  clear hn
  generalize hln : E.length = l at *
  have HL := hid hln
  clear hln
  obtain ⟨b1, o1, e1, _, c1⟩ := hx.cell (n - 1) (.string s) (by unfold strsV; rw [List.getElem?_map, hxs]; rfl)
  have hnI : (n : Int) - 1 = ((n - 1 : Nat) : Int) := by omega
  obtain ⟨q, hq⟩ : ∃ q, n - 1 = q := ⟨_, rfl⟩
  rw [hq] at c1 hnI
  have hqI : (q : Int) < (n : Int) := by omega
  have hn0 : ¬ (n : Int) = 0 := by omega
  have hself : (s.toList == s.toList) = true := beq_self_eq_true _
  subst e1
  go_enter Tryd.func13, Tryd.ntmps13
  go_wp2_with fail
  go_loopw [7] (fun s7 wr => ∃ i : Nat, s7 = .int .i64 i ∧ i ≤ n ∧ Below w.heap.size w wr) (fun s7 _ => n - (intOf s7).toNat)
  case atStart => exact ⟨0, rfl, by omega, Below.refl _ _⟩
  case round =>
    obtain ⟨i, rfl, hi, hB⟩ := hrel
    by_cases hin : i < n
    · obtain ⟨d, hdm, hxi, hdc⟩ := hlk i hin
      obtain ⟨ke, hke⟩ := List.mem_iff_getElem?.1 hdm
      obtain ⟨e, he, rfl⟩ := ps_get.1 hke
      have hkl : ke < l := by rw [← HL.out]; exact (List.getElem?_eq_some_iff.1 he).1
      have hiI : (i : Int) < (n : Int) := by omega
      have HK := hid hke
      have HE := hid he
      have HXI := hid hxi
      have HDC := hid hdc
      clear hke he hxi hdc hdm
      obtain ⟨wo, hwo⟩ : ∃ y, y = wr := ⟨_, rfl⟩
      subst hwo
      go_wp2_with fail
      go_loopw [8, 9] (fun s8 s9 wr => ∃ k : Nat, s9 = .int .i64 k ∧ k ≤ l ∧ s8 = .bool (decide (ke < k)) ∧ Below w.heap.size w wr) (fun _ s9 _ => l - (intOf s9).toNat)
      case atStart => exact ⟨0, rfl, by omega, by simp, hB⟩
      case round =>
        obtain ⟨k, rfl, hk, rfl, hBk⟩ := hrel
        by_cases hkn : k < l
        · have hEr := hE.below hBk
          obtain ⟨f, hf⟩ : ∃ y, E[k]? = some y := ⟨_, List.getElem?_eq_getElem (by rw [HL.out]; exact hkn)⟩
          obtain ⟨b0, o0, ea, hb0, a0, a1⟩ := hEr.at hf
          obtain ⟨b2, o2, e2, _, c2⟩ := (hx.below hBk).cell i (.string e.id) (by unfold strsV; rw [List.getElem?_map, HXI.out]; rfl)
          cases e2
          subst ea
          have hkI : (k : Int) < (l : Int) := by omega
          by_cases hke : k = ke
          · subst hke
            rw [HE.out] at hf
            cases hf
            have hqe : (e.id.toList == e.id.toList) = true := beq_self_eq_true _
            go_wp2_with fail
            refine wp_region_quiet_all (by kernel_rfl) (by kernel_rfl) ?_
            repeat (go_big_quiet_step (fail))
            refine wpQuiet_end ?_
            have hfl : decide (k < k + 1) = true := decide_eq_true (by omega)
            by_cases hi0 : i = 0
            · have hb0i : ((i : Int) == 0) = true := by rw [hi0]; rfl
              have hd0i : decide ((i : Int) = 0) = true := by rw [hi0]; rfl
              have hcl : e.cs.length = 0 := by
                rcases HDC.out with ⟨_, q⟩ | ⟨q, _⟩
                · rw [show e.cs = [] from q]; rfl
                · omega
              rw [hcl] at a1
              clear hi0
              go_wp2_with fail
              refine wp_region_quiet_all (by kernel_rfl) (by kernel_rfl) ?_
              repeat (go_big_quiet_step (fail))
              refine wpQuiet_end ?_
              go_wp2_with fail
              go_roundw
              case rel => exact ⟨k + 1, by go_num, by omega, by rw [hfl], hBk.drew.drew⟩
              case measure => first | (simp [intOf]; omega) | simp [intOf]
            · obtain ⟨c, hc1, hc2⟩ : ∃ c, x[i - 1]? = some c ∧ c ∈ e.cs := by
                rcases HDC.out with ⟨q, _⟩ | ⟨_, c, q1, q2⟩
                · exact absurd q hi0
                · exact ⟨c, q1, q2⟩
              obtain ⟨j, hj⟩ : ∃ j, i - 1 = j := ⟨_, rfl⟩
              rw [hj] at hc1
              have hjI : (i : Int) - 1 = (j : Int) := by omega
              have hi0I : ¬ (i : Int) = 0 := by omega
              have hi1I : (0 : Int) < (i : Int) := by omega
              have hi1N : 0 < i := by omega
              have hdp : decide (0 < i) = true := decide_eq_true hi1N
              have hb0i : ((i : Int) == 0) = false := by rw [beq_eq_false_iff_ne]; omega
              have hj0 : (0 : Int) ≤ (j : Int) := by omega
              have hj1 : (j : Int) < (n : Int) := by omega
              obtain ⟨b3, o3, e3, _, c3⟩ := (hx.below hBk).cell j (.string c) (by unfold strsV; rw [List.getElem?_map, hc1]; rfl)
              cases e3
              have hse := hEr.cs e (List.mem_of_getElem? HE.out)
              have hcin : Calls Tryd.prog 11 #[.slice e.ao e.cs.length e.cap, .string c] wr.drew.drew fun e w'' => e = .returned (.bool true) ∧ w'' = wr.drew.drew := by
                have := turned (in_any e.ao e.cap e.cs c wr.drew.drew ⟨hse.len, hse.cell⟩ (by have := hcs e (List.mem_of_getElem? HE.out); omega))
                rw [decide_eq_true hc2] at this
                exact this
              have HCI := hid hcin
              clear hcin hc1 hc2 hse
              go_wp2_with fail
              refine wp_region_quiet_all (by kernel_rfl) (by kernel_rfl) ?_
              repeat (go_big_quiet_step (exact HCI.out _))
              refine wpQuiet_end ?_
              go_wp2_with fail
              go_roundw
              case rel => exact ⟨k + 1, by go_num, by omega, by rw [hfl], hBk.drew.drew⟩
              case measure => first | (simp [intOf]; omega) | simp [intOf]
          · have hne : (f.id.toList == e.id.toList) = false := by
              rw [bytes_beq]
              refine decide_eq_false fun q => hke ?_
              exact hd k ke f.p e.p (ps_get.2 ⟨f, hf, rfl⟩) HK.out q
            have hfl : decide (ke < k) = decide (ke < k + 1) := by
              rw [decide_eq_decide]; omega
            clear hf
            go_wp2_with fail
            refine wp_region_quiet_all (by kernel_rfl) (by kernel_rfl) ?_
            repeat (go_big_quiet_step (fail))
            refine wpQuiet_end ?_
            go_wp2_with fail
            go_roundw
            case rel => exact ⟨k + 1, by go_num, by omega, by first | rfl | rw [hfl] | (rw [← hfl]), hBk.drew⟩
            case measure => first | (simp [intOf]; omega) | simp [intOf]
        · obtain rfl : k = l := by omega
          have hfl : decide (ke < k) = true := decide_eq_true hkl
          rw [hfl]
          go_wp2_with fail
          go_roundw
          case rel => exact ⟨i + 1, by go_num, by omega, hBk⟩
          case measure => first | (simp [intOf]; omega) | simp [intOf]
    · go_wp2_with fail
      go_ret
      exact ⟨rfl, hB⟩
end Go.Proofs.YtgkgpfennlkcnaaDoor
