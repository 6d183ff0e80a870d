import Derived.Test.YthnkahilaampmaaDoorMountReach
import Derived.StillTailTactics
namespace Go.Proofs.YthnkahilaampmaaDoor
open Go.RowKit

theorem Tryd.zero57 : (Tryd.prog.info? 57).map (fun i => i.zero) = some (some (.agg (Array.replicate 97 (.int .i64 0)))) := by kernel_rfl

/-- the least of the ways by one of the positions ps, on from there -/
def leastBy (on : Int → Int) (at_ : Int) (ps : List Int) : Int := ps.foldl (fun m p => min m (max (at_ - p) (p - at_) + on p)) 1073741824

theorem leastBy_snoc (on : Int → Int) (at_ : Int) (ps : List Int) (p : Int) : leastBy on at_ (ps ++ [p]) = min (leastBy on at_ ps) (max (at_ - p) (p - at_) + on p) := by
  simp [leastBy]
theorem leastBy_le (on : Int → Int) (at_ : Int) (ps : List Int) : leastBy on at_ ps ≤ 1073741824 := by
  suffices h : ∀ (l : List Int) (m : Int), m ≤ 1073741824 → l.foldl (fun m p => min m (max (at_ - p) (p - at_) + on p)) m ≤ 1073741824 from h ps _ (by omega)
  intro l
  induction l with
  | nil => simp
  | cons p l ih => intro m hm; simp only [List.foldl_cons]; exact ih _ (by omega)
theorem leastBy_ge (on : Int → Int) (at_ : Int) (ps : List Int) (h : ∀ p ∈ ps, 0 ≤ on p) : 0 ≤ leastBy on at_ ps := by
  suffices hh : ∀ (l : List Int) (m : Int), (∀ p ∈ l, 0 ≤ on p) → 0 ≤ m → 0 ≤ l.foldl (fun m p => min m (max (at_ - p) (p - at_) + on p)) m from hh ps _ h (by omega)
  intro l
  induction l with
  | nil => simp
  | cons p l ih => intro m hp hm; simp only [List.foldl_cons]; refine ih _ (fun q hq => hp q (by simp [hq])) ?_; have := hp p (by simp); omega

theorem reachL_mem (c p : Int) (h : p ∈ reachL c) : -48 ≤ p ∧ p ≤ 48 := by
  have : ∀ k, p ∈ reachTo c k → -48 ≤ p ∧ p ≤ 48 := by
    intro k
    induction k with
    | zero => simp [reachTo]
    | succ k ih =>
      simp only [reachTo, List.mem_append]
      rintro (h | h)
      · exact ih h
      · split at h
        · rename_i hi; simp at h; subst h; unfold isB at hi; simpa using hi
        · simp at h
  exact this 4 h

/-- 97 cells: at cell i the least length from position i - 48 on -/
def lenCells (F : Int → Int) : List Value := (List.range 97).map fun (i : Nat) => Value.int .i64 (F ((i : Int) - 48))
theorem lenCells_get (F : Int → Int) (p : Int) (h0 : -48 ≤ p) (h1 : p ≤ 48) : (lenCells F)[(p + 48).toNat]? = some (.int .i64 (F p)) := by
  unfold lenCells
  simp [show (p + 48).toNat < 97 by omega, show max (p + 48) 0 - 48 = p by omega]

theorem reachL_ne (c : Int) (h0 : 0 ≤ c) (h1 : c < 32) : reachL c ≠ [] := by
  have hi : isB (c - 64 + 32 * ((1 : Nat) : Int)) = true := by unfold isB; simp; omega
  have h2 := reachTo_hit c 1 hi
  intro h
  have : (reachL c).length = 0 := by rw [h]; rfl
  have h3 : (reachTo c 2).length ≤ (reachL c).length := by
    unfold reachL
    simp only [show reachTo c 4 = reachTo c 2 ++ _ ++ _ from rfl, List.length_append]
    omega
  rw [h2] at h3
  simp at h3
  omega

theorem take_snoc' {α : Type} (l : List α) (k : Nat) (x : α) (h : l[k]? = some x) : l.take (k + 1) = l.take k ++ [x] := by
  rw [List.take_add_one, h]; rfl

set_option maxHeartbeats 800000 in
set_option maxRecDepth 100000 in
theorem before_any (c : Int) (b : Nat) (on : Int → Int) (w : World) (h0 : 0 ≤ c) (h1 : c < 32) (hb : Blk w b 57 (lenCells on)) (hon : ∀ p, 0 ≤ on p ∧ on p ≤ 1073741824) :
    Calls Tryd.prog 33 #[.int .i64 c, .pointer (some ⟨b, 0, none⟩)] w fun e w' => ∃ g, e = .returned (.pointer (some ⟨g, 0, none⟩)) ∧ w.heap.size ≤ g ∧ Below w.heap.size w w' ∧
      Blk w' g 57 (lenCells fun a => leastBy on a (reachL c)) := by
  have hblt := hb.lt
  have hne := reachL_ne c h0 h1
  go_enter Tryd.func33, Tryd.ntmps33
  go_wp2_with (first | (refine wpl_alloc rfl 57 rfl _ Tryd.zero57 ?_; intro w1 gz hz0 hz1 hb1 hg1))
  refine (reach_any c w1 h0 h1).mono ?_
  rintro e w2 ⟨v, rfl, hm⟩
  obtain ⟨g, cap, cur, rfl, hg, hcur, hcap, hmax, hrd⟩ := hm.open (by simpa using hne)
  have hb2 : Blk w2 b 57 (lenCells on) := (hb.grown hg1 (by simp)).below hm.below (by omega)
  have hB2 : Below w.heap.size w w2 := ((Below.refl _ w).grown hg1 (Nat.le_refl _) (by simp)).trans (hm.below.mono (by omega))
  have hz2 : Blk w2 gz 57 (fillTo (fun i => .int .i64 (leastBy on ((i : Int) - 48) (reachL c))) (.int .i64 0) 0 97) := by
    rw [fillTo_zero]
    have := hb1.below hm.below (by omega)
    simpa [Value.cells] using this
  unfold maxLen at hmax
  have hgw : gz < g := by omega
  have hlen : ((reachL c).map (Value.int .i64)).length = (reachL c).length := by simp
  go_wp2
  go_loopw [16] (fun s16 wr => ∃ k : Nat, k ≤ 97 ∧ s16 = .int .i64 k ∧ w2.grownBy wr (some gz) ∧ Blk wr gz 57 (fillTo (fun i => .int .i64 (leastBy on ((i : Int) - 48) (reachL c))) (.int .i64 0) k 97)) (fun s16 _ => 97 - (intOf s16).toNat)
  case atStart => exact ⟨0, by omega, rfl, World.grownBy.refl _ _, hz2⟩
  case round =>
    obtain ⟨wo, rfl⟩ : ∃ wo : World, wo = wr := ⟨_, rfl⟩
    obtain ⟨k, hk, rfl, hgr, hzr⟩ := hrel
    by_cases hlt : k < 97
    · have hzc := hzr.cell k
      rw [fillTo_get _ _ _ _ _ hlt] at hzc
      have hzf := hzr.free k
      have hI1 : (k : Int) < 97 := by omega
      have HF := hid (fillTo_set (fun i => .int .i64 (leastBy on ((i : Int) - 48) (reachL c))) (.int .i64 0) k 97)
      have hgr1 : w2.grownBy (wo.setCell ⟨gz, k, none⟩ (.int .i64 1073741824)) (some gz) := grownBy_set hgr k _
      have hzr1 : Blk (wo.setCell ⟨gz, k, none⟩ (.int .i64 1073741824)) gz 57 ((fillTo (fun i => .int .i64 (leastBy on ((i : Int) - 48) (reachL c))) (.int .i64 0) k 97).set k (.int .i64 (leastBy on ((k : Int) - 48) ((reachL c).take 0)))) := hzr.set k _
      go_wp2
      go_loopw [23] (fun s23 wq => ∃ j : Nat, j ≤ (reachL c).length ∧ s23 = .int .i64 j ∧ w2.grownBy wq (some gz) ∧ Blk wq gz 57 ((fillTo (fun i => .int .i64 (leastBy on ((i : Int) - 48) (reachL c))) (.int .i64 0) k 97).set k (.int .i64 (leastBy on ((k : Int) - 48) ((reachL c).take j))))) (fun s23 _ => (reachL c).length - (intOf s23).toNat)
      case atStart => exact ⟨0, by omega, rfl, hgr1, hzr1⟩
      case round =>
        obtain ⟨j, hj, rfl, hgq, hzq⟩ := hrel
        by_cases hjl : j < (reachL c).length
        · obtain ⟨p, hp⟩ : ∃ p, (reachL c)[j]? = some p := ⟨_, List.getElem?_eq_getElem hjl⟩
          have hpm := reachL_mem c p (List.mem_of_getElem? hp)
          have HT := hid (take_snoc' _ j p hp)
          have hI2 : (j : Int) < ((reachL c).length : Int) := by omega
          have hpc : wr.cell? ⟨g, j, none⟩ = some (.int .i64 p) := by
            rw [(hcur.grown hgq (by simp; omega)).cell, hrd j (by rw [hlen]; exact hjl)]; simp [hp]
          have honc : wr.cell? ⟨b, (p + 48).toNat, none⟩ = some (.int .i64 (on p)) := by
            rw [(hb2.grown hgq (by simp; omega)).cell]; exact lenCells_get on p hpm.1 hpm.2
          have honp := hon p
          have hkc := hzq.cell k
          rw [List.getElem?_set_self (by rw [fillTo_len]; exact hlt)] at hkc
          have hkf := hzq.free k
          have hle := leastBy_le on ((k : Int) - 48) ((reachL c).take j)
          have hge := leastBy_ge on ((k : Int) - 48) ((reachL c).take j) (fun q _ => (hon q).1)
          obtain ⟨hp1, hp2⟩ := hpm
          obtain ⟨ho1, ho2⟩ := honp
          have hsn := leastBy_snoc on ((k : Int) - 48) ((reachL c).take j) p
          rw [← HT.out] at hsn
          have HN := hid hsn
          clear hsn
          go_wp2
          have W1 : IntKind.i64.wrap ((k : Int) - 48) = (k : Int) - 48 := IntWalk.i64_in _ (by omega)
          have W2 : IntKind.i64.wrap (p + 48) = p + 48 := IntWalk.i64_in _ (by omega)
          have W3 : IntKind.i64.wrap (max ((k : Int) - 48 - p) (p - ((k : Int) - 48)) + on p) = max ((k : Int) - 48 - p) (p - ((k : Int) - 48)) + on p := IntWalk.i64_in _ (by omega)
          have hI3 : (0 : Int) ≤ p + 48 := by omega
          have hI4 : p + 48 < (97 : Int) := by omega
          have hd := fun w' => turned (dist_any ((k : Int) - 48) p (by omega) (by omega) (by omega) (by omega) w')
          have HD := hid hd
          clear hd
          refine wp_region_still_tail 17 (by kernel_rfl) (by kernel_rfl) ?_
          simp only [List.take_succ_cons, List.take_zero, List.drop_succ_cons, List.drop_zero]
          repeat still_step
          still_call (HD.out _)
          repeat still_step
          refine wpStill_nil ?_
          change wpList _ _ _ _ _ wr.drew
          go_wp2
          clear W1 W2 W3
          have hz' := (Blk.drew hzq).set k (.int .i64 (if max ((k : Int) - 48 - p) (p - ((k : Int) - 48)) + on p < leastBy on ((k : Int) - 48) ((reachL c).take j) then max ((k : Int) - 48 - p) (p - ((k : Int) - 48)) + on p else leastBy on ((k : Int) - 48) ((reachL c).take j)))
          rw [List.set_set] at hz'
          have hm' : (if max ((k : Int) - 48 - p) (p - ((k : Int) - 48)) + on p < leastBy on ((k : Int) - 48) ((reachL c).take j) then max ((k : Int) - 48 - p) (p - ((k : Int) - 48)) + on p else leastBy on ((k : Int) - 48) ((reachL c).take j)) = leastBy on ((k : Int) - 48) ((reachL c).take (j + 1)) := by
            rw [HN.out]; omega
          rw [hm'] at hz'
          have hg' : w2.grownBy (wr.drew.setCell ⟨gz, k, none⟩ (.int .i64 (if max ((k : Int) - 48 - p) (p - ((k : Int) - 48)) + on p < leastBy on ((k : Int) - 48) ((reachL c).take j) then max ((k : Int) - 48 - p) (p - ((k : Int) - 48)) + on p else leastBy on ((k : Int) - 48) ((reachL c).take j)))) (some gz) := grownBy_set (grownBy_drew hgq) k _
          rw [hm'] at hg' ⊢
          go_roundw
          case rel => exact ⟨j + 1, by omega, by go_num, hg', hz'⟩
          case measure => simp [intOf]; omega
        · obtain rfl : j = (reachL c).length := by omega
          rw [List.take_of_length_le (Nat.le_refl _), HF.out] at hzq
          go_wp2
          go_roundw
          case rel => exact ⟨k + 1, by omega, by go_num, hgq, hzq⟩
          case measure => simp [intOf]; omega
    · have hI1 : ¬ (k : Int) < 97 := by omega
      obtain rfl : k = 97 := by omega
      rw [fillTo_full] at hzr
      go_wp2
      go_ret
      exact ⟨gz, rfl, hz0, hB2.trans (grown_below hgr hB2.size (by intro k e; cases e; exact hz0)), hzr⟩
end Go.Proofs.YthnkahilaampmaaDoor
