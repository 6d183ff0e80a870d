/- weather: At, valid -/
import Derived.Test.YtbkheiilcfhfpaaDoorWeaAt
namespace Go.Proofs.YtbkheiilcfhfpaaDoor
open Go.RowKit

def clr (k : Nat) : List Value := [.int .i64 (if k ≤ 0 then 0 else 1000), .int .i64 (if k ≤ 1 then 0 else 1000), .int .i64 (if k ≤ 2 then 0 else 1000), .int .i64 (if k ≤ 3 then 0 else 1000), .int .i64 10, .bool true]
theorem clr_step {k : Nat} (hk : k < 4) : (clr k).set k (.int .i64 1000) = clr (k + 1) := by
  obtain rfl | rfl | rfl | rfl : k = 0 ∨ k = 1 ∨ k = 2 ∨ k = 3 := by omega
  all_goals rfl
theorem clr_full : clr 4 = cdS.cells := rfl
set_option maxHeartbeats 2000000 in
theorem at_yes (ao : Option Addr) (cap : Nat) (L : List Sp) (m : Int) (w : World) (hA : Sps w ao L) (hl : L.length ≤ 100000) (hv : allB L = true) (hq : momB m = true) : Calls Tryd.prog 9 #[.slice ao L.length cap, .int .i64 m] w fun e w' => e = .returned (.tuple #[(condF L m).v, .int .i64 0]) ∧ Below w.heap.size w w' := by
  have HA := hid (fun (w : World) (h : Sps w ao L) => all_any ao cap L w h hl)
  have HM := hid (fun w => moment_any m w)
  rw [hv] at HA
  rw [hq] at HM
  have hform : ∀ s ∈ L, formB s = true := by
    unfold allB at hv
    simp only [Bool.and_eq_true, decide_eq_true_eq, List.all_eq_true] at hv
    exact hv.2
  have HF := hid hform
  clear hform hv hq
  generalize hn : L.length = len at *
  go_enter Tryd.func9, Tryd.ntmps9
  go_wp2_with fail
  obtain ⟨w0, hw0, hz, hB⟩ := at_world w
  rw [hw0]
  clear hw0
  refine (HA.out _ (hA.below hB)).mono ?_
  rintro e w1 ⟨rfl, hB1⟩
  replace hz := hz.below hB1 hz.lt
  have hzlt : w.heap.size < w1.heap.size := hz.lt
  replace hB := hB.trans (hB1.mono hB.size)
  clear hB1
  go_wp2_with fail
  refine (HM.out _).mono ?_
  rintro e w2 ⟨rfl, rfl⟩
  have hc := Blk.new w1 #[.int .i64 0, .int .i64 0, .int .i64 0, .int .i64 0, .int .i64 0, .bool false] 26
  replace hz := hz.alloc (.cells #[.int .i64 0, .int .i64 0, .int .i64 0, .int .i64 0, .int .i64 0, .bool false] 26)
  go_wp2_with (refine wpList_store_row rfl 26 _ _ rfl w1.heap.size _ rfl rfl 26 _ hc (by kernel_rfl) rfl (by simp [Value.oneCell']) ?_)
  obtain ⟨w2, hw2⟩ : ∃ w2 : World, w2 = (w1.alloc (.cells #[.int .i64 0, .int .i64 0, .int .i64 0, .int .i64 0, .int .i64 0, .bool false] 26)).setRow w1.heap.size #[.int .i64 0, .int .i64 0, .int .i64 0, .int .i64 0, .int .i64 10, .bool true] := ⟨_, rfl⟩
  have hB2 : Below w.heap.size w w2 := by rw [hw2]; exact below_setRow (hB.alloc hB.size _) hB.size _
  have hc2 : Blk w2 w1.heap.size 26 (clr 0) := by rw [hw2]; exact setRow_heap _ _ _ _ _ _ hc
  have hz2 : Blk w2 w.heap.size 26 cd0.cells := by rw [hw2]; exact (setRow_other _ _ _ _ (by omega)).trans hz
  rw [← hw2]
  have hcz : w1.heap.size ≠ w.heap.size := by omega
  have hcB : w.heap.size ≤ w1.heap.size := hB.size
  clear hw2 hc hz hB hzlt
  generalize w1.heap.size = cb at *
  go_loopw [20] (fun s20 wr => ∃ k : Nat, s20 = .int .i64 k ∧ k ≤ 4 ∧ Blk wr cb 26 (clr k) ∧ Blk wr w.heap.size 26 cd0.cells ∧ Below w.heap.size w wr) (fun s20 _ => 4 - (intOf s20).toNat)
  case atStart => exact ⟨0, rfl, by omega, hc2, hz2, hB2⟩
  case round =>
    clear hc2 hz2 hB2
    obtain ⟨k, rfl, hk, hc, hz, hB⟩ := hrel
    by_cases hkl : k < 4
    · have f0 := hc.free (0 + k)
      have c0 := hc.cell (0 + k)
      rw [Nat.zero_add] at c0 f0
      obtain ⟨x, hx⟩ : ∃ x, (clr k)[k]? = some x := ⟨_, List.getElem?_eq_getElem (by simp [clr]; omega)⟩
      rw [hx] at c0
      go_wp2_with fail
      go_roundw
      case rel => exact ⟨k + 1, by go_num, by omega, by rw [← clr_step hkl]; exact hc.set _ _, hz.other _ (by exact fun h => hcz h.symm) _, hB.setCell hcB _⟩
      case measure => simp [intOf]; omega
    · have h4 : k = 4 := by omega
      rw [h4, clr_full] at hc
      clear h4
      go_wp2_with fail
      clear hk hkl
      go_loopw [29] (fun s29 wr => ∃ k : Nat, s29 = .int .i64 k ∧ k ≤ len ∧ (∃ C : Cd, Hid (C = condF (L.take k) m) ∧ Blk wr cb 26 C.cells) ∧ Blk wr w.heap.size 26 cd0.cells ∧ Below w.heap.size w wr) (fun s29 _ => len - (intOf s29).toNat)
      case atStart => exact ⟨0, rfl, by omega, ⟨_, hid rfl, hc⟩, hz, hB⟩
      case round =>
        clear hc hz hB
        obtain ⟨k, rfl, hk, ⟨C, HC, hc⟩, hz, hB⟩ := hrel
        by_cases hkl : k < len
        · obtain ⟨s, hs⟩ : ∃ t, L[k]? = some t := ⟨_, List.getElem?_eq_getElem (by omega)⟩
          obtain ⟨b, off, ea, hb, a0, a1, a2, a3, a4⟩ := (hA.below hB).at hs
          subst ea
          clear hb
          have HS := hid (cond_take (m := m) hs)
          have HFs := hid (HF.out s (List.mem_of_getElem? hs))
          rw [← HC.out] at HS
          clear hs HC
          obtain ⟨sk, sq, sn, sa, sb⟩ := s
          have HW := hid (fun w => within_any m sa sb w)
          obtain ⟨f, hf⟩ : ∃ f, inR m sa sb = f := ⟨_, rfl⟩
          rw [hf] at HW
          unfold stepC at HS
          rw [hf] at HS
          clear hf
          simp only at a0 a1 a2 a3 a4
          go_wp2_with fail
          obtain ⟨w3, hw3, hx, hB3⟩ := sp_world sk sq sn sa sb wr
          rw [hw3]
          clear hw3 a0 a1 a2 a3 a4
          have hBn := hB.trans (hB3.mono hB.size)
          have hxc : cb ≠ wr.heap.size := by have := hc.lt; omega
          replace hc := hc.below hB3 hc.lt
          replace hz := hz.below hB3 hz.lt
          skip
          clear hB hB3
          have x0 := hx.cell 0  ;have x1 := hx.cell 1  ;have x2 := hx.cell 2  ;have x3 := hx.cell 3  ;have x4 := hx.cell 4  ;simp only [List.getElem?_cons_succ, List.getElem?_cons_zero] at x0 x1 x2 x3 x4
          refine (HW.out _).mono ?_
          rintro e w4 ⟨rfl, rfl⟩
          cases f
          · go_wp2_with fail
            go_roundw
            case rel => exact ⟨k + 1, by go_num, by omega, ⟨C, hid (by have := HS.out; simpa using this.symm), hc⟩, hz, hBn⟩
            case measure => simp [intOf]; omega
          · obtain ⟨hq, hn2⟩ : (isK sk = true) ∧ (sk = 1 → 0 ≤ sq ∧ sq ≤ 3) := by
              have := HFs.out
              unfold formB valK at this
              simp only [Bool.and_eq_true] at this
              refine ⟨this.1.1.1.1, fun h => ?_⟩
              have h2 := this.2
              rw [h] at h2
              simp [inR] at h2
              omega
            clear HFs
            rcases isK_iff.1 hq with rfl | rfl | rfl
            · obtain ⟨q1, q2⟩ := hn2 rfl
              obtain rfl | rfl | rfl | rfl : sq = 0 ∨ sq = 1 ∨ sq = 2 ∨ sq = 3 := by omega
              all_goals clear q1 q2 hq hn2
              · (have y0 := hc.cell 0  ;have y1 := hc.cell 1  ;have y2 := hc.cell 2  ;have y3 := hc.cell 3  ;have y4 := hc.cell 4  ;have y5 := hc.cell 5  ;have f0 := hc.free 0  ;have f1 := hc.free 1  ;have f2 := hc.free 2  ;have f3 := hc.free 3  ;have f4 := hc.free 4  ;have f5 := hc.free 5  ;simp only [Cd.cells, List.getElem?_cons_succ, List.getElem?_cons_zero] at y0 y1 y2 y3 y4 y5  ;go_wp2_with fail  ;go_roundw)
                case rel => exact ⟨k + 1, by go_num, by omega, ⟨{C with c0 := sn}, hid (by have := HS.out; simpa using this.symm), hc.set 0 _⟩, hz.other _ (by exact fun h => hcz h.symm) _, hBn.setCell hcB _⟩
                case measure => simp [intOf]; omega
              · (have y0 := hc.cell 0  ;have y1 := hc.cell 1  ;have y2 := hc.cell 2  ;have y3 := hc.cell 3  ;have y4 := hc.cell 4  ;have y5 := hc.cell 5  ;have f0 := hc.free 0  ;have f1 := hc.free 1  ;have f2 := hc.free 2  ;have f3 := hc.free 3  ;have f4 := hc.free 4  ;have f5 := hc.free 5  ;simp only [Cd.cells, List.getElem?_cons_succ, List.getElem?_cons_zero] at y0 y1 y2 y3 y4 y5  ;go_wp2_with fail  ;go_roundw)
                case rel => exact ⟨k + 1, by go_num, by omega, ⟨{C with c1 := sn}, hid (by have := HS.out; simpa using this.symm), hc.set 1 _⟩, hz.other _ (by exact fun h => hcz h.symm) _, hBn.setCell hcB _⟩
                case measure => simp [intOf]; omega
              · (have y0 := hc.cell 0  ;have y1 := hc.cell 1  ;have y2 := hc.cell 2  ;have y3 := hc.cell 3  ;have y4 := hc.cell 4  ;have y5 := hc.cell 5  ;have f0 := hc.free 0  ;have f1 := hc.free 1  ;have f2 := hc.free 2  ;have f3 := hc.free 3  ;have f4 := hc.free 4  ;have f5 := hc.free 5  ;simp only [Cd.cells, List.getElem?_cons_succ, List.getElem?_cons_zero] at y0 y1 y2 y3 y4 y5  ;go_wp2_with fail  ;go_roundw)
                case rel => exact ⟨k + 1, by go_num, by omega, ⟨{C with c2 := sn}, hid (by have := HS.out; simpa using this.symm), hc.set 2 _⟩, hz.other _ (by exact fun h => hcz h.symm) _, hBn.setCell hcB _⟩
                case measure => simp [intOf]; omega
              · (have y0 := hc.cell 0  ;have y1 := hc.cell 1  ;have y2 := hc.cell 2  ;have y3 := hc.cell 3  ;have y4 := hc.cell 4  ;have y5 := hc.cell 5  ;have f0 := hc.free 0  ;have f1 := hc.free 1  ;have f2 := hc.free 2  ;have f3 := hc.free 3  ;have f4 := hc.free 4  ;have f5 := hc.free 5  ;simp only [Cd.cells, List.getElem?_cons_succ, List.getElem?_cons_zero] at y0 y1 y2 y3 y4 y5  ;go_wp2_with fail  ;go_roundw)
                case rel => exact ⟨k + 1, by go_num, by omega, ⟨{C with c3 := sn}, hid (by have := HS.out; simpa using this.symm), hc.set 3 _⟩, hz.other _ (by exact fun h => hcz h.symm) _, hBn.setCell hcB _⟩
                case measure => simp [intOf]; omega
            · clear hn2 hq
              (have y0 := hc.cell 0  ;have y1 := hc.cell 1  ;have y2 := hc.cell 2  ;have y3 := hc.cell 3  ;have y4 := hc.cell 4  ;have y5 := hc.cell 5  ;have f0 := hc.free 0  ;have f1 := hc.free 1  ;have f2 := hc.free 2  ;have f3 := hc.free 3  ;have f4 := hc.free 4  ;have f5 := hc.free 5  ;simp only [Cd.cells, List.getElem?_cons_succ, List.getElem?_cons_zero] at y0 y1 y2 y3 y4 y5  ;go_wp2_with fail  ;go_roundw)
              case rel => exact ⟨k + 1, by go_num, by omega, ⟨{C with s := sn}, hid (by have := HS.out; simpa using this.symm), hc.set 4 _⟩, hz.other _ (by exact fun h => hcz h.symm) _, hBn.setCell hcB _⟩
              case measure => simp [intOf]; omega
            · clear hn2 hq
              (have y0 := hc.cell 0  ;have y1 := hc.cell 1  ;have y2 := hc.cell 2  ;have y3 := hc.cell 3  ;have y4 := hc.cell 4  ;have y5 := hc.cell 5  ;have f0 := hc.free 0  ;have f1 := hc.free 1  ;have f2 := hc.free 2  ;have f3 := hc.free 3  ;have f4 := hc.free 4  ;have f5 := hc.free 5  ;simp only [Cd.cells, List.getElem?_cons_succ, List.getElem?_cons_zero] at y0 y1 y2 y3 y4 y5  ;go_wp2_with fail  ;go_roundw)
              case rel => exact ⟨k + 1, by go_num, by omega, ⟨{C with o := false}, hid (by have := HS.out; simpa using this.symm), hc.set 5 _⟩, hz.other _ (by exact fun h => hcz h.symm) _, hBn.setCell hcB _⟩
              case measure => simp [intOf]; omega
        · obtain rfl : k = len := by omega
          have HE := hid (show condF L m = C by rw [HC.out, ← hn, List.take_length])
          clear HC
          go_wp2_with (first
            | (refine wpList_load_row rfl 26 _ rfl cb rfl 26 _ (0, 0) _ hc Tryd.underlying26 rfl (by kernel_rfl) ?_)
            | (refine wpList_store_row rfl 26 _ _ rfl w.heap.size _ rfl rfl 26 _ hz (by kernel_rfl) rfl (by simp [Value.oneCell', Cd.cells]) ?_))
          (try simp only [Exit.inBlock, Exit.then])
          refine bodyPost_ret (results_row2 rfl _ _ w.heap.size 26 _ _ rfl (setRow_heap _ _ _ _ _ _ hz) Tryd.underlying26 rfl (by kernel_rfl)) rfl ?_
          exact ⟨by rw [HE.out]; rfl, below_setRow hB (Nat.le_refl _) _⟩
end Go.Proofs.YtbkheiilcfhfpaaDoor
