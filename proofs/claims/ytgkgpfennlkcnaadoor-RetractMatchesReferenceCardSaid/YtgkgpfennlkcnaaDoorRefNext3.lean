/- the reference's next: a text in quotes -/
import Derived.Test.YtgkgpfennlkcnaaDoorRefNext
import Derived.Test.YtgkgpfennlkcnaaDoorLexR
namespace Go.Proofs.YtgkgpfennlkcnaaDoor
open Go.RowKit

theorem indexAny_neg {cs : List UInt8} : ∀ {l : List UInt8}, (∀ b ∈ l, cs.contains b = false) → Lib.indexAny l cs = -1
  | [], _ => rfl
  | b :: l, h => by
    unfold Lib.indexAny
    rw [if_neg (by rw [h b (by simp)]; simp), indexAny_neg (l := l) (fun c hc => h c (by simp [hc]))]
    rfl
theorem tok1_quote {l : List UInt8} {i : Nat} (hc : atC l i = 6) (_hi : i < l.length) : tok1 (l.drop i) =
    (if Lib.indexAny (l.drop (i + 1)) [34, 10] < 0 ∨ (l.drop (i + 1))[(Lib.indexAny (l.drop (i + 1)) [34, 10]).toNat]? = some 10 then .err 6
     else if 400 < Lib.indexAny (l.drop (i + 1)) [34, 10] then .err 2
     else .tok 3 ((l.drop (i + 1)).take (Lib.indexAny (l.drop (i + 1)) [34, 10]).toNat) 0 ((Lib.indexAny (l.drop (i + 1)) [34, 10]).toNat + 2)) := by
  have h0 : atC (l.drop i) 0 = 6 := by rw [atC_drop]; exact hc
  have ht : (l.drop i).tail = l.drop (i + 1) := by rw [List.tail_drop]
  unfold tok1
  rw [h0, if_neg (by decide), if_neg (by decide), if_pos rfl, ht]

set_option maxHeartbeats 2000000 in
set_option maxRecDepth 100000 in
theorem rnext_quote (s : ByteArray) (i : Nat) (w : World) (hs : s.size ≤ 100000) (hi : i < s.size) (hc : atC s.data.toList i = 6) : Calls Tryd.prog 43 #[.string s, .int .i64 i] w fun e w' => e = .returned (RN (tok1 (s.data.toList.drop i)) i) ∧ Below w.heap.size w w' := by
  have HZ := hid (Lib.size_eq s)
  obtain ⟨b, hx⟩ : ∃ b, s[i]'hi = b := ⟨_, rfl⟩
  have hb : s.data.toList[i]? = some b := by rw [← hx]; exact Lib.data_getElem? s i hi
  have hcb : cls b = 6 := by rw [← atC_some hb]; exact hc
  have hb34 : b = 34 := cls6 hcb
  have hbI : ((b.toNat : Int) == 34) = true := by rw [hb34]; rfl
  have HT := hid (tok1_quote hc (by rw [← HZ.out]; exact hi))
  have HL := hid (fun w => rlet_is b false w (decide_eq_false (by omega)))
  have HD := hid (fun w => rdig_is b false w (decide_eq_false (by omega)))
  clear hcb hb34 hc
  obtain ⟨R, HR⟩ : ∃ R, Hid (RN (tok1 (s.data.toList.drop i)) i = R) := ⟨_, hid rfl⟩
  rw [HR.out]
  go_enter Tryd.func43, Tryd.ntmps43
  go_wp2_with fail
  obtain ⟨w0, hw0, hr, ht, hB⟩ := next_world i w
  rw [hw0]
  clear hw0 ht
  refine (HL.out _).mono ?_
  rintro e w' ⟨rfl, rfl⟩
  go_wp2_with fail
  refine (HD.out _).mono ?_
  rintro e w' ⟨rfl, rfl⟩
  go_wp2_with fail
  clear hbI hx
  go_loopw [6] (fun s6 wr => ∃ m : Nat, s6 = .int .i64 m ∧ i + 1 ≤ m ∧ m ≤ s.size ∧ wr = w0 ∧ Hid (∀ j c, i + 1 ≤ j → j < m → s.data.toList[j]? = some c → ([34, 10] : List UInt8).contains c = false)) (fun s6 _ => s.size - (intOf s6).toNat)
  case atStart => exact ⟨i + 1, by push_cast; rfl, Nat.le_refl _, by omega, rfl, hid (fun j c h1 h2 => by omega)⟩
  case round =>
    obtain ⟨m, rfl, hm1, hm2, rfl, HM⟩ := hrel
    have HALL := hid (show ∀ c ∈ (s.data.toList.drop (i + 1)).take (m - (i + 1)), ([34, 10] : List UInt8).contains c = false by
      intro c hc
      obtain ⟨j, hj⟩ := List.getElem?_of_mem hc
      rw [List.getElem?_take] at hj
      split at hj
      · rw [List.getElem?_drop] at hj
        exact HM.out (i + 1 + j) c (by omega) (by omega) hj
      · cases hj)
    by_cases hml : m < s.size
    · obtain ⟨c, hy⟩ : ∃ c, s[m]'hml = c := ⟨_, rfl⟩
      have HC := hid (show s.data.toList[m]? = some c by rw [← hy]; exact Lib.data_getElem? s m hml)
      have HCD := hid (show (s.data.toList.drop (i + 1))[m - (i + 1)]? = some c by rw [List.getElem?_drop, show i + 1 + (m - (i + 1)) = m by omega]; exact HC.out)
      have hJ : (m : Int) < (s.size : Int) := by omega
      have hJ2 : ((m : Int) == (s.size : Int)) = false := by rw [beq_eq_false_iff_ne]; omega
      by_cases h34 : c.toNat = 34
      · have hc34 : c = 34 := UInt8.toNat_inj.1 h34
        have h1 : ((c.toNat : Int) != 34) = false := by rw [h34]; rfl
        have h2 : ((c.toNat : Int) == 10) = false := by rw [h34]; rfl
        have hidx : Lib.indexAny (s.data.toList.drop (i + 1)) [34, 10] = ((m - (i + 1) : Nat) : Int) := indexAny_is HALL.out HCD.out (by rw [hc34]; decide)
        have HTT := HT.out
        have e1 : (((m - (i + 1) : Nat) : Int)).toNat = m - (i + 1) := by omega
        rw [hidx, e1, HCD.out, hc34, if_neg (by rintro (h | h); (omega); (simp at h))] at HTT
        clear hc34 h34 hidx e1
        by_cases hbig : 400 < m - (i + 1)
        · have hR : R = .tuple #[tok0, .int .i64 2] := by rw [← HR.out, HTT, if_pos (by omega)]; rfl
          have hbI : 400 < (m : Int) - (i : Int) - 1 := by omega
          clear HTT
          subst hR  ;go_wp2_with (refine wpList_store_row rfl 68 _ _ rfl w.heap.size _ rfl rfl 68 _ hr (by kernel_rfl) rfl (by first | (simp [Value.oneCell']; done) | (simp [Value.oneCell', tok0C]; done)) ?_)  ;(try simp only [Exit.inBlock, Exit.then]); refine bodyPost_ret (results_row2r rfl _ _ w.heap.size 68 _ _ rfl (setRow_heap _ _ _ _ _ _ hr) Tryd.underlying68 rfl (by kernel_rfl)) rfl ?_  ;exact ⟨rfl, below_setRow hB (Nat.le_refl _) _⟩
        · have hR : R = .tuple #[.agg #[.int .i64 3, .string ⟨((s.data.toList.drop (i + 1)).take (m - (i + 1))).toArray⟩, .int .i64 0, .int .i64 i], .int .i64 0] := by rw [← HR.out, HTT, if_neg (by omega)]; rfl
          have hbI : ¬ 400 < (m : Int) - (i : Int) - 1 := by omega
          clear HTT
          subst hR
          have sl := fun w => str_slice (P := Tryd.prog) 9 s ((i : Int) + 1) (m : Int) (by omega) (by omega) (by omega) Tryd.underlying9 w
          have em1 : ((i : Int) + 1).toNat = i + 1 := by omega
          have em2 : ((m : Int)).toNat = i + 1 + (m - (i + 1)) := by omega
          rw [em1, em2, ext_take] at sl
          clear em1 em2
          obtain ⟨T, hTT⟩ : ∃ T : ByteArray, ⟨((s.data.toList.drop (i + 1)).take (m - (i + 1))).toArray⟩ = T := ⟨_, rfl⟩
          rw [hTT] at sl
          have HTT := hid hTT
          clear hTT
          go_wp2_with (refine wpList_store_row rfl 68 _ _ rfl w.heap.size _ rfl rfl 68 _ hr (by kernel_rfl) rfl (by first | (simp [Value.oneCell']; done) | (simp [Value.oneCell', tok0C]; done)) ?_)
          (try simp only [Exit.inBlock, Exit.then]); refine bodyPost_ret (results_row2r rfl _ _ w.heap.size 68 _ _ rfl (setRow_heap _ _ _ _ _ _ hr) Tryd.underlying68 rfl (by kernel_rfl)) rfl ?_
          refine ⟨?_, below_setRow hB (Nat.le_refl _) _⟩
          rw [HTT.out]
          rfl
      · have h1 : ((c.toNat : Int) != 34) = true := by rw [bne_iff_ne]; omega
        by_cases h10 : c.toNat = 10
        · have hc10 : c = 10 := UInt8.toNat_inj.1 h10
          have h2 : ((c.toNat : Int) != 10) = false := by rw [h10]; rfl
          have h3 : ((c.toNat : Int) == 10) = true := by rw [h10]; rfl
          have hidx : Lib.indexAny (s.data.toList.drop (i + 1)) [34, 10] = ((m - (i + 1) : Nat) : Int) := indexAny_is HALL.out HCD.out (by rw [hc10]; decide)
          have e1 : (((m - (i + 1) : Nat) : Int)).toNat = m - (i + 1) := by omega
          have hR : R = .tuple #[tok0, .int .i64 6] := by rw [← HR.out, HT.out, hidx, e1, HCD.out, hc10, if_pos (.inr rfl)]; rfl
          clear hc10 h10 h34 hidx e1
          subst hR  ;go_wp2_with (refine wpList_store_row rfl 68 _ _ rfl w.heap.size _ rfl rfl 68 _ hr (by kernel_rfl) rfl (by first | (simp [Value.oneCell']; done) | (simp [Value.oneCell', tok0C]; done)) ?_)  ;(try simp only [Exit.inBlock, Exit.then]); refine bodyPost_ret (results_row2r rfl _ _ w.heap.size 68 _ _ rfl (setRow_heap _ _ _ _ _ _ hr) Tryd.underlying68 rfl (by kernel_rfl)) rfl ?_  ;exact ⟨rfl, below_setRow hB (Nat.le_refl _) _⟩
        · have h2 : ((c.toNat : Int) != 10) = true := by rw [bne_iff_ne]; omega
          have HNC := hid (show ([34, 10] : List UInt8).contains c = false by
            have a1 : ¬ c = 34 := fun e => h34 (by rw [e]; rfl)
            have a2 : ¬ c = 10 := fun e => h10 (by rw [e]; rfl)
            simp [a1, a2])
          clear h34 h10
          go_wp2_with fail
          go_roundw
          case rel =>
            refine ⟨m + 1, by go_num, by omega, by omega, trivial, hid (fun j d h3 h4 hd => ?_)⟩
            by_cases e : j = m
            · subst e; rw [HC.out] at hd; cases hd; exact HNC.out
            · exact HM.out j d h3 (by omega) hd
          case measure => simp [intOf]; omega
    · have hJ : ¬ (m : Int) < (s.size : Int) := by omega
      have hJ2 : ((m : Int) == (s.size : Int)) = true := by rw [beq_iff_eq]; omega
      have hidx : Lib.indexAny (s.data.toList.drop (i + 1)) [34, 10] = -1 := indexAny_neg (by
        intro c hcm
        apply HALL.out
        rw [List.take_of_length_le (by rw [List.length_drop, ← HZ.out]; omega)]
        exact hcm)
      have hR : R = .tuple #[tok0, .int .i64 6] := by rw [← HR.out, HT.out, hidx, if_pos (.inl (by omega))]; rfl
      clear hidx
      subst hR  ;go_wp2_with (refine wpList_store_row rfl 68 _ _ rfl w.heap.size _ rfl rfl 68 _ hr (by kernel_rfl) rfl (by first | (simp [Value.oneCell']; done) | (simp [Value.oneCell', tok0C]; done)) ?_)  ;(try simp only [Exit.inBlock, Exit.then]); refine bodyPost_ret (results_row2r rfl _ _ w.heap.size 68 _ _ rfl (setRow_heap _ _ _ _ _ _ hr) Tryd.underlying68 rfl (by kernel_rfl)) rfl ?_  ;exact ⟨rfl, below_setRow hB (Nat.le_refl _) _⟩
end Go.Proofs.YtgkgpfennlkcnaaDoor
