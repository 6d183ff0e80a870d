/- mount: the statement Limits -/
import Derived.Test.YtiimngmkndfegaaMountLimF
namespace Go.Proofs.Ytiimngmkndfegaa
open Go.RowKit

theorem Mine.kept {B : Nat} {w0 w w' : World} {E : TypeId} {v : Value} {xs : List Value} (h : Mine B w0 w E v xs) (hB : Below w.heap.size w w') : Mine B w0 w' E v xs :=
  ⟨ownsRow_chg (S := fun _ => False) h.own ⟨hB.os, hB.tape, hB.output, hB.size, fun k hk _ => hB.block k hk⟩ (fun _ _ hf => hf), h.below.trans (hB.mono h.base), Nat.le_trans h.base hB.size⟩
theorem Mine.drew {B : Nat} {w0 w : World} {E : TypeId} {v : Value} {xs : List Value} (h : Mine B w0 w E v xs) : Mine B w0 w.drew E v xs :=
  h.kept ⟨rfl, rfl, rfl, Nat.le_refl _, fun _ _ => rfl⟩
theorem opp_snoc (l : List Int) (k : Nat) (x : Int) (h : l[k]? = some x) : (l.take (k + 1)).map opp = (l.take k).map opp ++ [opp x] := by
  rw [take_snoc' l k x h]; simp
theorem drop_at (l : List Int) (k : Nat) (x : Int) (h : l[k]? = some x) : l.drop k = x :: l.drop (k + 1) := by
  obtain ⟨h1, rfl⟩ := List.getElem?_eq_some_iff.1 h
  exact List.drop_eq_getElem_cons h1


set_option maxHeartbeats 4000000 in
set_option maxRecDepth 100000 in
theorem limits_long (raw : Int) (ao : Option Addr) (ca : Nat) (la : List Int) (w : World) (r0 : 0 ≤ raw) (r1 : raw ≤ 255) (hA : SlV w ao (la.map (Value.int .u8)))
    (ba : ∀ x ∈ la, 0 ≤ x ∧ x ≤ 255) (na : la.length ≤ 1048576) (hlong : 40 < la.length) :
    Calls Try.prog 6 #[.int .u8 raw, .slice ao la.length ca] w fun e w' => e = .returned (.bool true) ∧ Below w.heap.size w w' := by
  obtain ⟨at_, hat⟩ : ∃ at_, raw % 97 - 48 = at_ := ⟨_, rfl⟩
  have HAT := hid hat
  clear hat
  have HBA := hid ba
  clear ba
  have hI : 40 < (la.length : Int) := by omega
  have HLA := hid (show (thr la).length = la.length by simp [thr])
  go_enter Try.func6, Try.ntmps6  ;go_wp2_with fail  ;refine (head_any _).mono ?_  ;rintro e w1 ⟨rfl, hB1⟩  ;go_wp2_with (go_at_call 16; refine (position_any _ _ r0 r1).mono ?_; rintro e w' ⟨rfl, rfl⟩)  ;rw [HAT.out]  ;refine (through_any _ _ la _ (hA.below hB1) HBA.out na).mono ?_  ;rintro e w2 ⟨ao2, cap2, rfl, hs2, hn2, hB2⟩  ;go_wp2_with fail
  refine (plan_long at_ _ _ la.length (thr la) _ hs2 HLA.out hlong).mono ?_
  rintro e w3 ⟨rfl, hB3⟩
  go_wp2_with fail
  go_ret
  exact ⟨rfl, bthen hB1 (bthen hB2 hB3)⟩

set_option maxHeartbeats 4000000 in
set_option maxRecDepth 100000 in
theorem limits_short (raw : Int) (ao : Option Addr) (ca : Nat) (la : List Int) (w : World) (r0 : 0 ≤ raw) (r1 : raw ≤ 255) (hA : SlV w ao (la.map (Value.int .u8)))
    (ba : ∀ x ∈ la, 0 ≤ x ∧ x ≤ 255) (hsa : la.length ≤ 40) :
    Calls Try.prog 6 #[.int .u8 raw, .slice ao la.length ca] w fun e w' => e = .returned (.bool true) ∧ Below w.heap.size w w' := by
  obtain ⟨at_, hat⟩ : ∃ at_, raw % 97 - 48 = at_ := ⟨_, rfl⟩
  have ha : -48 ≤ at_ ∧ at_ ≤ 48 := by omega
  have HAT := hid hat
  clear hat
  have HBA := hid ba
  clear ba
  have na : la.length ≤ 1048576 := by omega
  have hI : ¬ 40 < (la.length : Int) := by omega
  have HLA := hid (show (thr la).length = la.length by simp [thr])
  have HTB := hid (thr_bd la)
  obtain ⟨cs, hcs⟩ : ∃ cs, thr la = cs := ⟨_, rfl⟩
  have hg1 := greedy_ge cs at_ ha (by rw [← hcs]; exact thr_bd la)
  have hg2 := least_le cs at_ at_ ⟨0, by omega, by omega, by omega⟩ (by rw [← hcs]; exact thr_bd la) (by rw [← hcs, HLA.out]; omega)
  have hg3 := lenF_opp cs at_ (by rw [← hcs]; exact thr_bd la)
  have hb := lenF_bd cs at_
  obtain ⟨n, hn⟩ : ∃ n, lenF cs at_ = n := ⟨_, rfl⟩
  obtain ⟨GT, hGT⟩ : ∃ n, greedyF cs at_ = n := ⟨_, rfl⟩
  obtain ⟨LT, hLT⟩ : ∃ n, leastF cs at_ = n := ⟨_, rfl⟩
  rw [hn] at hg1 hg2 hg3 hb
  rw [hGT] at hg1
  rw [hLT] at hg2
  have HN := hid hn
  have HG := hid hGT
  have HL := hid hLT
  have HO := hid hg3
  clear hn hGT hLT hg3
  obtain ⟨a1, a2⟩ := ha
  obtain ⟨b1, b2⟩ := hb
  go_enter Try.func6, Try.ntmps6  ;go_wp2_with fail  ;refine (head_any _).mono ?_  ;rintro e w1 ⟨rfl, hB1⟩  ;go_wp2_with (go_at_call 16; refine (position_any _ _ r0 r1).mono ?_; rintro e w' ⟨rfl, rfl⟩)  ;rw [HAT.out]  ;refine (through_any _ _ la _ (hA.below hB1) HBA.out na).mono ?_  ;rintro e w2 ⟨ao2, cap2, rfl, hs2, hn2, hB2⟩  ;go_wp2_with fail
  rw [hcs] at hs2 HTB HLA
  clear hcs
  refine (plan_thr at_ _ _ la.length cs _ hs2 ⟨a1, a2⟩ HLA.out HTB.out hsa).mono ?_
  rintro e w3 ⟨ao3, cap3, rfl, _, hB3⟩
  rw [HN.out]
  have hs3 := hs2.below hB3
  obtain ⟨m, hm⟩ : ∃ m, la.length = m := ⟨_, rfl⟩
  rw [hm] at hsa hI HLA ⊢
  clear hs2 hA hm na
  go_wp2_with fail
  go_loopw [11, 12, 13, 14, 15, 16] (fun s11 s12 s13 s14 s15 s16 wr => ∃ (i : Nat) (G L N C : Int), s11 = .int .i64 G ∧ s12 = .int .i64 L ∧ s13 = .int .i64 N ∧ s14 = .int .i64 C ∧ s16 = .int .i64 i ∧ i ≤ m ∧
    Mine w3.heap.size w3 wr 3 s15 (((cs.take i).map opp).map (Value.int .i64)) ∧ (-48 ≤ N ∧ N ≤ 48) ∧ (-48 ≤ C ∧ C ≤ 48) ∧ (0 ≤ G ∧ G ≤ 32 * (i : Int)) ∧ (0 ≤ L ∧ L ≤ 16 * (i : Int)) ∧ Hid (G + greedyF (cs.drop i) N = GT) ∧ Hid (L + leastF (cs.drop i) C = LT)) (fun _ _ _ _ _ s16 _ => m - (intOf s16).toNat)
  case atStart => exact ⟨0, 0, 0, at_, at_, rfl, rfl, rfl, rfl, rfl, by omega, Mine.start (Below.refl _ _) (Nat.le_refl _), ⟨a1, a2⟩, ⟨a1, a2⟩, by omega, by omega, hid (by rw [List.drop_zero, HG.out]; omega), hid (by rw [List.drop_zero, HL.out]; omega)⟩
  case round =>
    obtain ⟨i, G, L, N, C, rfl, rfl, rfl, rfl, rfl, hi, hm, ⟨n0, n1⟩, ⟨c0, c1⟩, ⟨g0, g1⟩, ⟨l0, l1⟩, HGI, HLI⟩ := hrel
    by_cases hlt : i < m
    · have hI1 : (i : Int) < (m : Int) := by omega
      obtain ⟨c, hc⟩ : ∃ c, cs[i]? = some c := ⟨_, List.getElem?_eq_getElem (by have := HLA.out; omega)⟩
      obtain ⟨k0, k1⟩ := HTB.out c (List.mem_of_getElem? hc)
      have hdr := drop_at cs i c hc
      obtain ⟨hpm, hpd⟩ := moveP_spec N c ⟨n0, n1⟩ k0 k1
      obtain ⟨p0, p1⟩ := reachL_mem c _ hpm
      have hnear := move_near N c ⟨n0, n1⟩ k0 k1
      have hd0 := (lenF_bd [c] N).1
      have HMV := hid (fun w => move_val N c (moveP N c) (lenF [c] N) w ((planOk_iff _ _).2 ⟨⟨n0, n1⟩, by simp, by simpa using ⟨k0, k1⟩⟩) rfl rfl)
      have HAR := hid (fun w => around_any C c (by omega) (by omega) (by omega) (by omega) w)
      have har : 0 ≤ aroundF C c ∧ aroundF C c ≤ 16 := by unfold aroundF; omega
      have hG2 := HGI.out
      have hL2 := HLI.out
      rw [hdr, greedyF] at hG2
      rw [hdr, leastF] at hL2
      generalize moveP N c = p at *
      generalize lenF [c] N = d at *
      generalize aroundF C c = r at *
      have HG2 := hid (show G + d + greedyF (cs.drop (i + 1)) p = GT by omega)
      have HL2 := hid (show L + r + leastF (cs.drop (i + 1)) c = LT by omega)
      have HC := hid hc
      have HOP := hid (opp_snoc cs i c hc)
      obtain ⟨r0', r1'⟩ := har
      clear hG2 hL2 hdr HGI HLI hpm hpd
      obtain ⟨b, off, rfl, hb0, hbc⟩ := (hs3.below hm.below).cell i c hc
      have hlen : (((cs.take i).map opp).map (Value.int .i64)).length = i := by simp; have := HLA.out; omega
      have HLN := hid hlen
      clear hlen hc
      go_wp2_with fail
      refine (HMV.out _).mono ?_
      rintro e w4 ⟨rfl, hB4⟩
      have hm4 := hm.kept hB4
      have hbc4 : w4.cell? ⟨b, off + i, none⟩ = some (.int .i64 c) := (hB4.cell hb0).trans hbc
      clear hm hbc
      go_wp2_with (go_at_call 18; refine (HAR.out _).mono ?_; rintro e w' ⟨rfl, rfl⟩)
      refine wp_region_quiet_all (by kernel_rfl) (by kernel_rfl) ?_
      repeat (go_big_quiet_step (fail))
      refine wpQuiet_end ?_
      have hm5 := hm4.drew
      have hopc : opp c = -c % 32 := by unfold opp; omega
      have HOC := hid hopc
      clear hopc hm4
      go_wp2_with (at_builtin; refine wpl_app1 rfl _ _ 22 rfl 3 _ _ Try.underlying22 Try.info3 rfl _ _ _ _ hm5 rfl (.int .i64 (-c % 32)) rfl rfl (by unfold maxLen; rw [HLN.out]; omega) (by rw [HLN.out]; omega) ?_; intro g1 cap1 w5 hm6 hg6 hB6 hat6)
      go_roundw
      case rel => exact ⟨i + 1, G + d, L + r, p, c, rfl, rfl, rfl, rfl, by go_num, by omega, by rw [HOP.out, List.map_append]; simpa [HOC.out] using hm6, ⟨p0, p1⟩, ⟨by omega, by omega⟩, ⟨by omega, by omega⟩, ⟨by omega, by omega⟩, HG2, HL2⟩
      case measure => simp [intOf] <;> omega
    · have hIe : ¬ (i : Int) < (m : Int) := by omega
      have hie : cs.drop i = [] := List.drop_eq_nil_of_le (by have := HLA.out; omega)
      have hte : cs.take i = cs := List.take_of_length_le (by have := HLA.out; omega)
      have e1 := HGI.out
      have e2 := HLI.out
      rw [hie] at e1 e2
      simp only [greedyF, leastF, Int.add_zero] at e1 e2
      subst e1 e2
      rw [hte] at hm
      obtain ⟨ao4, cap4, rfl, hs4⟩ := hm.sl
      have HBM := hid hm.below
      have HLO := hid (show (cs.map opp).length = m by rw [List.length_map]; exact HLA.out)
      rw [HLO.out]
      clear hie hte HGI HLI hm
      go_wp2_with fail
      refine (plan_thr (-at_) _ _ m (cs.map opp) _ hs4 ⟨by omega, by omega⟩ HLO.out (fun c hc => by obtain ⟨x, _, rfl⟩ := List.mem_map.1 hc; exact opp_bd x) hsa).mono ?_
      rintro e w5 ⟨ao5, cap5, rfl, _, hB5⟩
      rw [HO.out]
      go_wp2_with fail
      go_ret
      exact ⟨ret_bool (by first | rfl | simp [*]), bthen hB1 (bthen hB2 (bthen hB3 (bthen HBM.out hB5)))⟩

theorem limits_walk (raw : Int) (ao : Option Addr) (ca : Nat) (la : List Int) (w : World) (r0 : 0 ≤ raw) (r1 : raw ≤ 255) (hA : SlV w ao (la.map (Value.int .u8)))
    (ba : ∀ x ∈ la, 0 ≤ x ∧ x ≤ 255) (na : la.length ≤ 1048576) :
    Calls Try.prog 6 #[.int .u8 raw, .slice ao la.length ca] w fun e w' => e = .returned (.bool true) ∧ Below w.heap.size w w' := by
  by_cases h : la.length ≤ 40
  · exact limits_short raw ao ca la w r0 r1 hA ba h
  · exact limits_long raw ao ca la w r0 r1 hA ba na (by omega)
theorem limits_fin (raw : Int) (a0 : Option Addr) (len0 cap0 : Nat) (z0 : List Int) (w : World) (h0 : (Lit.int .u8 raw).wf = true)
    (h1 : IsRow .u8 w a0 len0 cap0 z0) (hk : cap0 ≤ 1048576) :
    Calls Try.prog 6 #[.int .u8 raw, .slice a0 len0 cap0] w fun e w' => e = .returned (.bool true) ∧ Below w.heap.size w w' := by
  obtain ⟨la, rfl, s0, f0, c0⟩ := h1.sl
  exact limits_walk raw a0 cap0 la w (u8_bd h0).1 (u8_bd h0).2 s0 (fun x hx => u8_bd (f0 x hx)) (by omega)
end Go.Proofs.Ytiimngmkndfegaa
