/- unit: the reference: Parse -/
import Derived.Test.YtmfoincmjpogmaaDoorUnitRef3
import Derived.Deep.CutRange
namespace Go.Proofs.YtmfoincmjpogmaaDoor
open Go.RowKit

theorem lens_le12 (l : List (List UInt8)) (h : ∀ s ∈ l, s.length ≤ 12) : Lib.lens l ≤ 12 * l.length := by
  induction l with
  | nil => simp [Lib.lens]
  | cons a l ih =>
    have h1 := h a (by simp)
    have h2 := ih (fun s hs => h s (by simp [hs]))
    simp only [Lib.lens, List.map_cons, List.sum_cons, List.length_cons] at *
    omega
theorem facW_len {nm : ByteArray} {x : Int} (h : facOk nm x = true) : ∀ f ∈ facW nm x, f.length ≤ 12 := by
  unfold facW
  rcases facS_of h with ⟨h1, -⟩ | ⟨f, hf, -, -, -, -, hl, -⟩
  · rw [h1]; simp
  · rw [hf]; simpa using hl
theorem textB_40 {u : U} (h : vB u = true) : (textB u).size ≤ 40 := by
  obtain ⟨h1, h2, h3⟩ := (vB_iff u).1 h
  have hm := facs_map u
  unfold textB
  by_cases he : facs u 3 = []
  · rw [if_pos he]; decide
  · rw [if_neg he]
    show (Lib.join ((facs u 3).map (·.data.toList)) [32]).toArray.size ≤ _
    rw [List.size_toArray, hm]
    have hall : ∀ s ∈ facW nmC u.a ++ facW nmE u.b ++ facW nmS u.c, s.length ≤ 12 := by
      intro f hf
      rw [List.mem_append, List.mem_append] at hf
      rcases hf with (hf | hf) | hf
      · exact facW_len (facOk_of h1).1 f hf
      · exact facW_len (facOk_of h2).2.1 f hf
      · exact facW_len (facOk_of h3).2.2 f hf
    have hl := lens_le12 _ hall
    have h3 := facs_len u 3
    rw [strs_len, ← List.length_map (f := (·.data.toList)), hm] at h3
    generalize facW nmC u.a ++ facW nmE u.b ++ facW nmS u.c = L at *
    cases L with
    | nil => simp [Lib.join_nil]
    | cons x r =>
      rw [Lib.join_length]
      simp only [List.length_cons, List.length_nil] at *
      omega
theorem rtext_is {u : U} {s : ByteArray} (hv : vB u = true) (hs : textB u = s) (w : World) : Calls Tryd.prog 14 #[uV u] w fun e w' => e = .returned (.tuple #[.string s, .int .i64 0]) ∧ Below w.heap.size w w' := by
  subst hs; exact rtext_good u w hv
theorem str_ne2 {s t : ByteArray} (h : ¬ s = t) : (s.toList == t.toList) = false := str_ne h

set_option maxHeartbeats 4000000 in
set_option maxRecDepth 100000 in
theorem rparse_any (s : ByteArray) (w : World) (hs : s.size ≤ 100000) : Calls Tryd.prog 16 #[.string s] w fun e w' => e = .returned (.tuple #[uV (parseU s.data.toList), .int .i64 (parseE s.data.toList)]) ∧ Below w.heap.size w w' := by
  obtain ⟨X, E, HX⟩ : ∃ X E, Hid (parseU s.data.toList = X ∧ parseE s.data.toList = E) := ⟨_, _, hid ⟨rfl, rfl⟩⟩
  rw [HX.out.1, HX.out.2]
  have HY := hid (fun (u : U) (hv : vB u = true) (ht : textB u = s) => show X = u ∧ E = 0 by
    rw [← HX.out.1, ← HX.out.2, ← ht]; exact parse_text u hv)
  have HN := hid (fun (hno : ∀ u : U, vB u = true → ¬ textB u = s) => show X = u0 ∧ E = 5 by
    rw [← HX.out.1, ← HX.out.2]
    have hne : parseE s.data.toList ≠ 0 := fun h0 => by
      have := parse_ok h0
      exact hno _ this.1 (str_ext this.2)
    have := parse_not hne
    exact ⟨this.2, this.1⟩)
  clear HX
  unfold uV
  by_cases h40 : 40 < s.size
  · obtain ⟨rfl, rfl⟩ := HN.out (fun u hv ht => by have := textB_40 hv; rw [ht] at this; omega)
    go_enter Tryd.func16, Tryd.ntmps16
    go_upto_region 1 with fail
    obtain ⟨w0, hw0, hh, hB⟩ := unit_worldR u0 w
    unfold u0 at hw0
    dsimp only at hw0
    rw [hw0]
    clear hw0
    have hrr := hh.get 0 _ _ rfl
    go_wp2_with (refine wpList_store_row rfl 23 _ _ rfl w.heap.size _ rfl rfl 23 _ hrr (by kernel_rfl) rfl (by first | (simp [Value.oneCell']; done) | (simp [Value.oneCell', uCells]; done)) ?_)
    (try simp only [Exit.inBlock, Exit.then]); refine bodyPost_ret (results_row2 rfl _ _ w.heap.size 23 _ _ rfl (setRow_heap _ _ _ _ _ _ hrr) Tryd.underlying23 rfl (by kernel_rfl)) rfl ?_
    exact ⟨rfl, below_setRow hB (Nat.le_refl _) _⟩
  · go_enter Tryd.func16, Tryd.ntmps16
    go_wp2_with fail
    obtain ⟨w0, hw0, hh, hB⟩ := unit_worldR u0 w
    unfold u0 at hw0
    dsimp only at hw0
    rw [hw0]
    clear hw0
    go_loopw [4] (fun s4 wr => ∃ i : Int, s4 = .int .i64 i ∧ -8 ≤ i ∧ i ≤ 9 ∧ Hid (∀ u, vB u = true → textB u = s → i ≤ u.a) ∧ Un wr [(w.heap.size, u0)] ∧ Below w.heap.size w wr) (fun s4 _ => (9 - intOf s4).toNat)
    case atStart => exact ⟨-8, rfl, by omega, by omega, hid (fun u hv _ => ((vB_iff u).1 hv).1.1), hh, hB⟩
    case round =>
      clear hh hB
      obtain ⟨i, rfl, hi1, hi2, HI, hh, hB⟩ := hrel
      by_cases hi8 : i ≤ 8
      · go_wp2_with fail
        go_loopw [5] (fun s5 wx => ∃ j : Int, s5 = .int .i64 j ∧ -8 ≤ j ∧ j ≤ 9 ∧ Hid (∀ u, vB u = true → textB u = s → u.a = i → j ≤ u.b) ∧ Un wx [(w.heap.size, u0)] ∧ Below w.heap.size w wx) (fun s5 _ => (9 - intOf s5).toNat)
        case atStart => exact ⟨-8, rfl, by omega, by omega, hid (fun u hv _ _ => ((vB_iff u).1 hv).2.1.1), hh, hB⟩
        case round =>
          clear hh hB
          obtain ⟨j, rfl, hj1, hj2, HJ, hh, hB⟩ := hrel
          by_cases hj8 : j ≤ 8
          · go_wp2_with fail
            go_loopw [6] (fun s6 wy => ∃ k : Int, s6 = .int .i64 k ∧ -8 ≤ k ∧ k ≤ 9 ∧ Hid (∀ u, vB u = true → textB u = s → u.a = i → u.b = j → k ≤ u.c) ∧ Un wy [(w.heap.size, u0)] ∧ Below w.heap.size w wy) (fun s6 _ => (9 - intOf s6).toNat)
            case atStart => exact ⟨-8, rfl, by omega, by omega, hid (fun u hv _ _ _ => ((vB_iff u).1 hv).2.2.1), hh, hB⟩
            case round =>
              clear hh hB
              obtain ⟨k, rfl, hk1, hk2, HK, hh, hB⟩ := hrel
              by_cases hk8 : k ≤ 8
              · have hvv : vB ⟨i, j, k⟩ = true := (vB_iff _).2 ⟨⟨hi1, hi8⟩, ⟨hj1, hj8⟩, hk1, hk8⟩
                by_cases hm : textB ⟨i, j, k⟩ = s
                · obtain ⟨rfl, rfl⟩ := HY.out _ hvv hm
                  have HT := hid (fun w => rtext_is hvv hm w)
                  unfold uV at HT
                  dsimp only at HT ⊢
                  clear hvv hm HN HY HI HJ HK
                  go_wp2_with fail
                  refine (HT.out _).mono ?_
                  rintro e w9 ⟨rfl, hB9⟩
                  have hh9 : Un w9 [(wr.heap.size, ⟨i, j, k⟩), (w.heap.size, u0)] := (hh.new ⟨i, j, k⟩).below hB9
                  have hB' := hB.trans ((bthen (below_alloc wr _) hB9).mono hB.size)
                  have hub := hh9.get 0 _ _ rfl
                  have hrr := hh9.get 1 _ _ rfl
                  generalize wr.heap.size = ub at hub ⊢
                  clear hh hh9 hB9
                  go_wp2_with (first | (refine wpList_load_row rfl 23 _ rfl ub rfl 23 _ (0, 0) _ hub Tryd.underlying23 rfl (by kernel_rfl) ?_) | (refine wpList_store_row rfl 23 _ _ rfl w.heap.size _ rfl rfl 23 _ hrr (by kernel_rfl) rfl (by first | (simp [Value.oneCell']; done) | (simp [Value.oneCell', uCells]; done)) ?_))
                  (try simp only [Exit.inBlock, Exit.then]); refine bodyPost_ret (results_row2 rfl _ _ w.heap.size 23 _ _ rfl (setRow_heap _ _ _ _ _ _ hrr) Tryd.underlying23 rfl (by kernel_rfl)) rfl ?_
                  exact ⟨rfl, below_setRow hB' (Nat.le_refl _) _⟩
                · have HT := hid (fun w => rtext_good ⟨i, j, k⟩ w hvv)
                  have hne := str_ne2 hm
                  have HK2 := hid (show ∀ u, vB u = true → textB u = s → u.a = i → u.b = j → k + 1 ≤ u.c by
                    intro u hv ht ha hb
                    have := HK.out u hv ht ha hb
                    rcases Int.lt_or_eq_of_le this with h | h
                    · omega
                    · exfalso
                      apply hm
                      rw [← ht]
                      congr 1
                      exact U_ext ha.symm hb.symm h)
                  unfold uV at HT
                  dsimp only at HT
                  generalize textB ⟨i, j, k⟩ = T at *
                  clear hvv hm
                  go_wp2_with fail
                  refine (HT.out _).mono ?_
                  rintro e w9 ⟨rfl, hB9⟩
                  have hh9 : Un w9 [(wr.heap.size, ⟨i, j, k⟩), (w.heap.size, u0)] := (hh.new ⟨i, j, k⟩).below hB9
                  have hB' := hB.trans ((bthen (below_alloc wr _) hB9).mono hB.size)
                  have hhr : Un w9 [(w.heap.size, u0)] := fun p hp => hh9 p (List.mem_cons_of_mem _ hp)
                  clear hh hh9 hB9
                  go_wp2_with fail
                  go_roundw
                  case rel => exact ⟨k + 1, by go_num, by omega, by omega, HK2, hhr, hB'⟩
                  case measure => simp [intOf]; omega
              · have hk9 : k = 9 := by omega
                have HJ2 := hid (show ∀ u, vB u = true → textB u = s → u.a = i → j + 1 ≤ u.b by
                  intro u hv ht ha
                  have h1 := HJ.out u hv ht ha
                  rcases Int.lt_or_eq_of_le h1 with h | h
                  · omega
                  · have := HK.out u hv ht ha h.symm
                    have := ((vB_iff u).1 hv).2.2.2
                    omega)
                subst hk9
                go_wp2_with fail
                go_roundw
                case rel => exact ⟨j + 1, by go_num, by omega, by omega, HJ2, hh, hB⟩
                case measure => simp [intOf]; omega
          · have hj9 : j = 9 := by omega
            have HI2 := hid (show ∀ u, vB u = true → textB u = s → i + 1 ≤ u.a by
              intro u hv ht
              have h1 := HI.out u hv ht
              rcases Int.lt_or_eq_of_le h1 with h | h
              · omega
              · have := HJ.out u hv ht h.symm
                have := ((vB_iff u).1 hv).2.1.2
                omega)
            subst hj9
            go_wp2_with fail
            go_roundw
            case rel => exact ⟨i + 1, by go_num, by omega, by omega, HI2, hh, hB⟩
            case measure => simp [intOf]; omega
      · obtain ⟨rfl, rfl⟩ := HN.out (fun u hv ht => by have := HI.out u hv ht; have := ((vB_iff u).1 hv).1.2; omega)
        have hi9 : i = 9 := by omega
        have hrr := hh.get 0 _ _ rfl
        subst hi9
        clear HN HY HI
        go_wp2_with (refine wpList_store_row rfl 23 _ _ rfl w.heap.size _ rfl rfl 23 _ hrr (by kernel_rfl) rfl (by first | (simp [Value.oneCell']; done) | (simp [Value.oneCell', uCells]; done)) ?_)
        (try simp only [Exit.inBlock, Exit.then]); refine bodyPost_ret (results_row2 rfl _ _ w.heap.size 23 _ _ rfl (setRow_heap _ _ _ _ _ _ hrr) Tryd.underlying23 rfl (by kernel_rfl)) rfl ?_
        exact ⟨rfl, below_setRow hB (Nat.le_refl _) _⟩
end Go.Proofs.YtmfoincmjpogmaaDoor
