import Derived.Test.YthnkahilaampmaaDoorMountPlan
import Derived.Test.YthnkahilaampmaaDoorLibQ
import Derived.Deep.RegionHeld3
namespace Go.Proofs.YthnkahilaampmaaDoor
open Go.RowKit

/-- the least length of what is left from a position on -/
def lenF : List Int → Int → Int
  | [] => fun _ => 0
  | c :: cs => fun a => leastBy (lenF cs) a (reachL c)

theorem lenF_bd (cs : List Int) (a : Int) : 0 ≤ lenF cs a ∧ lenF cs a ≤ 1073741824 := by
  induction cs generalizing a with
  | nil => simp [lenF]
  | cons c cs ih => exact ⟨leastBy_ge _ _ _ (fun p _ => (ih p).1), leastBy_le _ _ _⟩

/-- a slice of ints, read only: its address and its cells -/
structure SlI (w : World) (ao : Option Addr) (l : List Int) : Prop where
  len : l.length ≤ maxLen
  cell : ∀ i x, l[i]? = some x → ∃ b off, ao = some ⟨b, off, none⟩ ∧ b < w.heap.size ∧ w.cell? ⟨b, off + i, none⟩ = some (.int .i64 x)

theorem SlI.chg {S : Nat → Prop} {w w' : World} {ao : Option Addr} {l : List Int} (h : SlI w ao l) (hc : Chg S w w') (hs : ∀ b off, ao = some ⟨b, off, none⟩ → ¬ S b) : SlI w' ao l :=
  ⟨h.len, fun i x hi => by
    obtain ⟨b, off, e, hb, hx⟩ := h.cell i x hi
    exact ⟨b, off, e, Nat.lt_of_lt_of_le hb hc.size, by rw [← hx]; exact World.cell?_of_block (w := w) (hc.block b hb (hs b off e))⟩⟩
theorem SlI.below {w w' : World} {ao : Option Addr} {l : List Int} (h : SlI w ao l) (hB : Below w.heap.size w w') : SlI w' ao l :=
  ⟨h.len, fun i x hi => by
    obtain ⟨b, off, e, hb, hx⟩ := h.cell i x hi
    exact ⟨b, off, e, Nat.lt_of_lt_of_le hb hB.size, by rw [← hx]; exact hB.cell hb⟩⟩

def leftCells (bs : Nat → Nat) (k n : Nat) : List Value := (List.range (n + 1)).map fun j => if j < k then .pointer none else .pointer (some ⟨bs j, 0, none⟩)
theorem leftCells_get (bs : Nat → Nat) (k n j : Nat) (h : j ≤ n) : (leftCells bs k n)[j]? = some (if j < k then .pointer none else .pointer (some ⟨bs j, 0, none⟩)) := by
  simp [leftCells, show j < n + 1 by omega]
theorem leftCells_set (bs : Nat → Nat) (m n g : Nat) (_h : m ≤ n) : (leftCells bs (m + 1) n).set m (.pointer (some ⟨g, 0, none⟩)) = leftCells (fun j => if j = m then g else bs j) m n := by
  apply List.ext_getElem
  · simp [leftCells]
  · intro i h1 h2
    rw [List.getElem_set]
    simp only [leftCells, List.getElem_map, List.getElem_range]
    split
    · subst_vars; simp
    · rename_i hne
      by_cases hi : i < m
      · rw [if_pos (by omega), if_pos hi]
      · rw [if_neg (by omega), if_neg hi, if_neg (by omega)]
theorem leftCells_first (n g : Nat) : (List.replicate (n + 1) (Value.pointer none)).set n (.pointer (some ⟨g, 0, none⟩)) = leftCells (fun _ => g) n n := by
  apply List.ext_getElem
  · simp [leftCells]
  · intro i h1 h2
    rw [List.getElem_set]
    simp only [leftCells, List.getElem_map, List.getElem_range, List.getElem_replicate]
    simp at h1
    split
    · subst_vars; simp
    · rw [if_pos (by omega)]

theorem Tryd.info55 : (Tryd.prog.info? 55).map (fun i => (i.zero, i.size, i.bytes)) = some (some (.pointer none), 1, 8) := by kernel_rfl
theorem Tryd.zero46 : (Tryd.prog.info? 46).map (fun i => i.zero) = some (some (.slice none 0 0)) := by kernel_rfl

/-- the way that the code takes -/
def planL : Int → List Int → List Int
  | _, [] => []
  | at_, c :: cs =>
    match (reachL c).find? (fun p => max (at_ - p) (p - at_) + lenF cs p == lenF (c :: cs) at_) with
    | some p => p :: planL p cs
    | none => planL at_ cs
/-- where it stands behind it -/
def planEnd : Int → List Int → Int
  | at_, [] => at_
  | at_, c :: cs =>
    match (reachL c).find? (fun p => max (at_ - p) (p - at_) + lenF cs p == lenF (c :: cs) at_) with
    | some p => planEnd p cs
    | none => planEnd at_ cs

theorem planL_hit (at_ c p : Int) (cs : List Int) (j : Nat) (hp : (reachL c)[j]? = some p) (hno : ∀ i, i < j → ∀ q, (reachL c)[i]? = some q → (max (at_ - q) (q - at_) + lenF cs q == lenF (c :: cs) at_) = false)
    (hy : (max (at_ - p) (p - at_) + lenF cs p == lenF (c :: cs) at_) = true) : planL at_ (c :: cs) = p :: planL p cs := by
  have hj := (List.getElem?_eq_some_iff.1 hp)
  obtain ⟨hlt, hpe⟩ := hj
  have hf : (reachL c).find? (fun p => max (at_ - p) (p - at_) + lenF cs p == lenF (c :: cs) at_) = some p := by
    rw [List.find?_eq_some_iff_getElem]
    refine ⟨hy, j, hlt, hpe, fun i hi => ?_⟩
    have := hno i hi _ (List.getElem?_eq_getElem (by omega))
    rw [this]; rfl
  rw [planL, hf]
theorem planL_miss (at_ c : Int) (cs : List Int) (hno : ∀ i, i < (reachL c).length → ∀ q, (reachL c)[i]? = some q → (max (at_ - q) (q - at_) + lenF cs q == lenF (c :: cs) at_) = false) : planL at_ (c :: cs) = planL at_ cs := by
  have hf : (reachL c).find? (fun p => max (at_ - p) (p - at_) + lenF cs p == lenF (c :: cs) at_) = none := by
    rw [List.find?_eq_none]
    intro q hq
    obtain ⟨i, hi, e⟩ := List.getElem_of_mem hq
    rw [hno i hi q (by rw [List.getElem?_eq_getElem hi, e])]
    simp
  rw [planL, hf]

def planOk (at0 : Int) (cs : List Int) : Bool := isB at0 && decide (cs.length ≤ 40) && cs.all colB

theorem lenCells_zero : lenCells (lenF []) = List.replicate 97 (.int .i64 0) := by
  unfold lenCells
  apply List.ext_getElem
  · simp
  · intro i h1 h2; simp only [List.getElem_map, List.getElem_replicate, lenF]

def PlanPost (at0 : Int) (cs : List Int) (w : World) (e : Ending) (w' : World) : Prop :=
  (planOk at0 cs = false → e = .returned (.tuple #[.slice none 0 0, .int .i64 0, .int .i64 1]) ∧ Below w.heap.size w w') ∧
  (planOk at0 cs = true → ∃ v, e = .returned (.tuple #[v, .int .i64 (lenF cs at0), .int .i64 0]) ∧ Mine w.heap.size w w' 3 v ((planL at0 cs).map (Value.int .i64)))


set_option maxHeartbeats 800000 in
set_option maxRecDepth 100000 in
theorem plan_bad (at0 : Int) (ao : Option Addr) (cap : Nat) (cs : List Int) (w : World) (h : isB at0 = false ∨ 40 < cs.length) :
    Calls Tryd.prog 25 #[.int .i64 at0, .slice ao cs.length cap] w fun e w' => e = .returned (.tuple #[.slice none 0 0, .int .i64 0, .int .i64 1]) ∧ Below w.heap.size w w' := by
  cases hi : isB at0 with
  | false =>
    go_enter Tryd.func25, Tryd.ntmps25
    go_wp2_with (first     | (go_at_call 31; refine (is_any _ _).mono ?_; rintro e w' ⟨rfl, rfl⟩)     | (refine wpl_box rfl 3 _ rfl (.int .i64 at0) rfl ?_; intro w1 ba hba0 hba1 hba hg1; have hac := hba.cell 0)     | (refine wpl_make rfl _ _ 54 rfl _ _ _ Tryd.underlying54 Tryd.info55 rfl _ _ (cs.length + 1) rfl rfl (by omega) (by omega) (by omega) (by unfold maxLen; omega) ?_; intro w2 gl hgl0 hgl1 hgl hg2; have hll := hgl.cell cs.length; have hlf := hgl.free cs.length)     | (refine wpl_build0 rfl 57 rfl _ _ Tryd.underlying57 rfl (Array.replicate 97 (.int .i64 0)) Tryd.zero57 ?_)     | (refine wpl_box rfl 57 _ rfl (.agg (Array.replicate 97 (.int .i64 0))) rfl ?_; intro w3 bz hbz0 hbz1 hbz hg3; have hll3 := (hgl.grown hg3 (by simp)).cell cs.length; have hlf3 := (hgl.grown hg3 (by simp)).free cs.length))
    go_step3
    go_wp2_with (first     | (go_at_call 31; refine (is_any _ _).mono ?_; rintro e w' ⟨rfl, rfl⟩)     | (refine wpl_box rfl 3 _ rfl (.int .i64 at0) rfl ?_; intro w1 ba hba0 hba1 hba hg1; have hac := hba.cell 0)     | (refine wpl_make rfl _ _ 54 rfl _ _ _ Tryd.underlying54 Tryd.info55 rfl _ _ (cs.length + 1) rfl rfl (by omega) (by omega) (by omega) (by unfold maxLen; omega) ?_; intro w2 gl hgl0 hgl1 hgl hg2; have hll := hgl.cell cs.length; have hlf := hgl.free cs.length)     | (refine wpl_build0 rfl 57 rfl _ _ Tryd.underlying57 rfl (Array.replicate 97 (.int .i64 0)) Tryd.zero57 ?_)     | (refine wpl_box rfl 57 _ rfl (.agg (Array.replicate 97 (.int .i64 0))) rfl ?_; intro w3 bz hbz0 hbz1 hbz hg3; have hll3 := (hgl.grown hg3 (by simp)).cell cs.length; have hlf3 := (hgl.grown hg3 (by simp)).free cs.length))
    rw [Exit.noGoto_ret]
    go_ret3
    exact ⟨rfl, grown_below hg1 (Nat.le_refl _) (by simp)⟩
  | true =>
    have hl : 40 < cs.length := by rcases h with h | h; rw [hi] at h; cases h; exact h
    have hl2 : (40 : Int) < (cs.length : Int) := by omega
    go_enter Tryd.func25, Tryd.ntmps25
    go_wp2_with (first     | (go_at_call 31; refine (is_any _ _).mono ?_; rintro e w' ⟨rfl, rfl⟩)     | (refine wpl_box rfl 3 _ rfl (.int .i64 at0) rfl ?_; intro w1 ba hba0 hba1 hba hg1; have hac := hba.cell 0)     | (refine wpl_make rfl _ _ 54 rfl _ _ _ Tryd.underlying54 Tryd.info55 rfl _ _ (cs.length + 1) rfl rfl (by omega) (by omega) (by omega) (by unfold maxLen; omega) ?_; intro w2 gl hgl0 hgl1 hgl hg2; have hll := hgl.cell cs.length; have hlf := hgl.free cs.length)     | (refine wpl_build0 rfl 57 rfl _ _ Tryd.underlying57 rfl (Array.replicate 97 (.int .i64 0)) Tryd.zero57 ?_)     | (refine wpl_box rfl 57 _ rfl (.agg (Array.replicate 97 (.int .i64 0))) rfl ?_; intro w3 bz hbz0 hbz1 hbz hg3; have hll3 := (hgl.grown hg3 (by simp)).cell cs.length; have hlf3 := (hgl.grown hg3 (by simp)).free cs.length))
    go_step3
    go_wp2_with (first     | (go_at_call 31; refine (is_any _ _).mono ?_; rintro e w' ⟨rfl, rfl⟩)     | (refine wpl_box rfl 3 _ rfl (.int .i64 at0) rfl ?_; intro w1 ba hba0 hba1 hba hg1; have hac := hba.cell 0)     | (refine wpl_make rfl _ _ 54 rfl _ _ _ Tryd.underlying54 Tryd.info55 rfl _ _ (cs.length + 1) rfl rfl (by omega) (by omega) (by omega) (by unfold maxLen; omega) ?_; intro w2 gl hgl0 hgl1 hgl hg2; have hll := hgl.cell cs.length; have hlf := hgl.free cs.length)     | (refine wpl_build0 rfl 57 rfl _ _ Tryd.underlying57 rfl (Array.replicate 97 (.int .i64 0)) Tryd.zero57 ?_)     | (refine wpl_box rfl 57 _ rfl (.agg (Array.replicate 97 (.int .i64 0))) rfl ?_; intro w3 bz hbz0 hbz1 hbz hg3; have hll3 := (hgl.grown hg3 (by simp)).cell cs.length; have hlf3 := (hgl.grown hg3 (by simp)).free cs.length))
    rw [Exit.noGoto_ret]
    go_ret3
    exact ⟨rfl, grown_below hg1 (Nat.le_refl _) (by simp)⟩

set_option maxHeartbeats 1600000 in
set_option maxRecDepth 100000 in
theorem plan_good (at0 : Int) (ao : Option Addr) (cap : Nat) (cs : List Int) (w : World) (hi : isB at0 = true) (hl : cs.length ≤ 40) (hcs : SlI w ao cs) :
    Calls Tryd.prog 25 #[.int .i64 at0, .slice ao cs.length cap] w (PlanPost at0 cs w) := by
  have hl2 : (cs.length : Int) ≤ 40 := by omega
  go_enter Tryd.func25, Tryd.ntmps25
  go_wp2_with (first     | (go_at_call 31; refine (is_any _ _).mono ?_; rintro e w' ⟨rfl, rfl⟩)     | (refine wpl_box rfl 3 _ rfl (.int .i64 at0) rfl ?_; intro w1 ba hba0 hba1 hba hg1; have hac := hba.cell 0)     | (refine wpl_make rfl _ _ 54 rfl _ _ _ Tryd.underlying54 Tryd.info55 rfl _ _ (cs.length + 1) rfl rfl (by omega) (by omega) (by omega) (by unfold maxLen; omega) ?_; intro w2 gl hgl0 hgl1 hgl hg2; have hll := hgl.cell cs.length; have hlf := hgl.free cs.length)     | (refine wpl_build0 rfl 57 rfl _ _ Tryd.underlying57 rfl (Array.replicate 97 (.int .i64 0)) Tryd.zero57 ?_)     | (refine wpl_box rfl 57 _ rfl (.agg (Array.replicate 97 (.int .i64 0))) rfl ?_; intro w3 bz hbz0 hbz1 hbz hg3; have hll3 := (hgl.grown hg3 (by simp)).cell cs.length; have hlf3 := (hgl.grown hg3 (by simp)).free cs.length))
  go_step3
  go_wp2_with (first     | (go_at_call 31; refine (is_any _ _).mono ?_; rintro e w' ⟨rfl, rfl⟩)     | (refine wpl_box rfl 3 _ rfl (.int .i64 at0) rfl ?_; intro w1 ba hba0 hba1 hba hg1; have hac := hba.cell 0)     | (refine wpl_make rfl _ _ 54 rfl _ _ _ Tryd.underlying54 Tryd.info55 rfl _ _ (cs.length + 1) rfl rfl (by omega) (by omega) (by omega) (by unfold maxLen; omega) ?_; intro w2 gl hgl0 hgl1 hgl hg2; have hll := hgl.cell cs.length; have hlf := hgl.free cs.length)     | (refine wpl_build0 rfl 57 rfl _ _ Tryd.underlying57 rfl (Array.replicate 97 (.int .i64 0)) Tryd.zero57 ?_)     | (refine wpl_box rfl 57 _ rfl (.agg (Array.replicate 97 (.int .i64 0))) rfl ?_; intro w3 bz hbz0 hbz1 hbz hg3; have hll3 := (hgl.grown hg3 (by simp)).cell cs.length; have hlf3 := (hgl.grown hg3 (by simp)).free cs.length))
  have hll4 := (hgl.grown hg3 (by simp)).set cs.length (.pointer (some ⟨bz, 0, none⟩))
  rw [leftCells_first] at hll4
  have hbz4 : Blk (w3.setCell ⟨gl, cs.length, none⟩ (.pointer (some ⟨bz, 0, none⟩))) bz 57 (lenCells (lenF [])) := by
    rw [lenCells_zero]
    have := hbz.other ⟨gl, cs.length, none⟩ (by simp; omega) (.pointer (some ⟨bz, 0, none⟩))
    simpa [Value.cells] using this
  have hba4 : Blk (w3.setCell ⟨gl, cs.length, none⟩ (.pointer (some ⟨bz, 0, none⟩))) ba 3 [.int .i64 at0] :=
    ((hba.grown hg2 (by simp)).grown hg3 (by simp)).other ⟨gl, cs.length, none⟩ (by simp; omega) _
  have hB4 : Below w.heap.size w (w3.setCell ⟨gl, cs.length, none⟩ (.pointer (some ⟨bz, 0, none⟩))) :=
    (grown_below ((hg1.trans hg2).trans hg3) (Nat.le_refl _) (by simp)).setCell (by simp; omega) _
  clear hll hlf hll3 hlf3 hac
  generalize w3.setCell ⟨gl, cs.length, none⟩ (.pointer (some ⟨bz, 0, none⟩)) = w4 at *
  go_loopw [8] (fun s8 wr => ∃ (k : Nat) (i : Int) (bs : Nat → Nat), i = (k : Int) - 1 ∧ s8 = .int .i64 i ∧ k ≤ cs.length ∧ Below w.heap.size w wr ∧ Blk wr ba 3 [.int .i64 at0] ∧ Blk wr gl 55 (leftCells bs k cs.length) ∧
      (∀ j, k ≤ j → j ≤ cs.length → gl < bs j ∧ Blk wr (bs j) 57 (lenCells (lenF (cs.drop j)))) ∧ (∀ c ∈ cs.drop k, 0 ≤ c ∧ c < 32)) (fun s8 _ => (intOf s8 + 1).toNat)
  case atStart =>
    refine ⟨cs.length, _, fun _ => bz, rfl, rfl, Nat.le_refl _, hB4, hba4, hll4, ?_, by simp⟩
    intro j h1 h2
    obtain rfl : j = cs.length := by omega
    rw [List.drop_length]
    exact ⟨by show gl < bz; omega, hbz4⟩
  case round =>
    obtain ⟨k, i, bs, hik, rfl, hk, hB, hbar, hglr, hbs, hval⟩ := hrel
    cases k with
    | succ m =>
      obtain rfl : i = (m : Int) := by omega
      clear hik
      have hm : m < cs.length := by omega
      obtain ⟨c, hc⟩ : ∃ c, cs[m]? = some c := ⟨_, List.getElem?_eq_getElem hm⟩
      obtain ⟨b, off, rfl, hb, hx0⟩ := hcs.cell m c hc
      have hx := (hB.cell hb).trans hx0
      clear hx0
      have hsz := hB.size
      have HC := hid hc
      clear hc
      have Hbs := hid hbs
      clear hbs
      have Hval := hid hval
      clear hval
      have hI1 : (m : Int) < (cs.length : Int) := by omega
      cases hcol : colB c with
      | false =>
        go_wp2_with (first | (go_at_call 32; refine (column_any _ _).mono ?_; rintro e w' ⟨rfl, rfl⟩))
        rw [Exit.noGoto_ret]
        go_ret3
        have hmem : c ∈ cs := List.mem_of_getElem? HC.out
        refine ⟨fun _ => ⟨rfl, hB⟩, fun hk => ?_⟩
        simp only [planOk, Bool.and_eq_true, List.all_eq_true] at hk
        rw [hk.2 c hmem] at hcol
        cases hcol
      | true =>
        have hcv : 0 ≤ c ∧ c < 32 := by simpa [colB] using hcol
        obtain ⟨h0, h1⟩ := hcv
        have hI2 : (m : Int) + 1 < (cs.length : Int) + 1 := by omega
        have hp1 := hglr.cell (m + 1)
        rw [leftCells_get _ _ _ _ (by omega), if_neg (by omega)] at hp1
        have hp2 := leftCells_get bs (m + 1) cs.length m (by omega)
        obtain ⟨hgb, hblk⟩ := Hbs.out (m + 1) (by omega) (by omega)
        go_wp2_with (first | (go_at_call 32; refine (column_any _ _).mono ?_; rintro e w' ⟨rfl, rfl⟩))
        have W1 : IntKind.i64.wrap ((m : Int) + 1) = (m : Int) + 1 := IntWalk.i64_in _ (by omega)
        have W2 : (0 : Int) ≤ (m : Int) + 1 := by omega
        have W4 : (m : Int) < (cs.length : Int) + 1 := by omega
        have W5 : (0 : Int) ≤ (m : Int) := by omega
        have W3 : ((m : Int) + 1).toNat = m + 1 := by omega
        go_region_held3 (fun w' => w'.cell? ⟨b, off + m, none⟩ = some (.int .i64 c) ∧ w'.cell? ⟨gl, m + 1, none⟩ = some (.pointer (some ⟨bs (m + 1), 0, none⟩)))
          (first | go_keep | exact ⟨h5a, h5b⟩ | exact ⟨(World.cell?_setCell_other _ _ _ _ (by simp <;> omega)).trans h5a, (World.cell?_setCell_other _ _ _ _ (by simp)).trans h5b⟩)
          (first | (go_at_call 33; refine (before_any c _ (lenF (cs.drop (m + 1))) _ h0 h1 hblk.drew (lenF_bd _)).mono ?_; rintro e w5 ⟨g5, rfl, hg50, hgB0, hgb5⟩; have hgB1 := undrew hgB0; have hgl5 := hglr.below hgB1 hglr.lt; have h5a := (hgB1.cell (p := ⟨b, off + m, none⟩) (by show b < _; omega)).trans hx; have h5b := (hgB1.cell (p := ⟨gl, m + 1, none⟩) hglr.lt).trans hp1; have h5c := hgl5.cell m; have h5d := hgl5.free m))
        clear W1 W2 W3 W4 W5
        go_wp2_with fail
        have hgl6 := hgl5.set m (.pointer (some ⟨g5, 0, none⟩))
        rw [leftCells_set _ _ _ _ (by omega)] at hgl6
        have hg51 : wr.heap.size ≤ g5 := hg50
        have hglt := hglr.lt
        have hbalt := hbar.lt
        go_roundw
        case rel =>
          refine ⟨m, _, _, rfl, rfl, by omega, (hB.trans (hgB1.mono hB.size)).setCell (by simp <;> omega) _, (hbar.below hgB1 hbalt).other _ (by simp <;> omega) _, hgl6, ?_, ?_⟩
          · intro j h1 h2
            by_cases hj : j = m
            · subst hj
              rw [if_pos rfl]
              refine ⟨by omega, ?_⟩
              rw [List.drop_eq_getElem_cons hm]
              have hce : cs[j] = c := by have := HC.out; rw [List.getElem?_eq_getElem hm] at this; exact Option.some.inj this
              rw [hce]
              exact hgb5.other _ (by simp <;> omega) _
            · rw [if_neg hj]
              obtain ⟨h3, h4⟩ := Hbs.out j (by omega) h2
              exact ⟨h3, (h4.below hgB1 h4.lt).other _ (by simp <;> omega) _⟩
          · rw [List.drop_eq_getElem_cons hm]
            have hce : cs[m] = c := by have := HC.out; rw [List.getElem?_eq_getElem hm] at this; exact Option.some.inj this
            rw [hce]
            intro x hxm
            rcases List.mem_cons.1 hxm with rfl | hxm
            · exact ⟨h0, h1⟩
            · exact Hval.out x hxm
        case measure => simp [intOf] <;> omega
    | zero =>
      obtain rfl : i = -1 := by omega
      clear hik
      obtain ⟨hgb0, hblk0⟩ := hbs 0 (by omega) (by omega)
      rw [List.drop_zero] at hblk0
      have Hbs := hid hbs
      clear hbs
      have Hval := hid hval
      clear hval
      have hp0 := hglr.cell 0
      rw [leftCells_get _ _ _ _ (by omega), if_neg (by omega)] at hp0
      have hat := hbar.cell 0
      have hib : -48 ≤ at0 ∧ at0 ≤ 48 := by simpa [isB] using hi
      obtain ⟨hib1, hib2⟩ := hib
      have hlc := hblk0.cell (at0 + 48).toNat
      rw [lenCells_get _ _ hib1 hib2] at hlc
      go_wp2
      refine wp_region_quiet_all (by kernel_rfl) (by kernel_rfl) ?_
      repeat (go_big_quiet_step (fail))
      refine wpQuiet_end ?_
      have hmk : ∀ (fn : Fn) (first cap : Array Value) (w : World), (Instr.makeFunc fn first cap).run Tryd.prog w = .ok (.func fn first cap) w := fun _ _ _ _ => rfl
      go_wp2_with (first | (refine wpl_alloc rfl 46 rfl _ Tryd.zero46 ?_; intro w5 bo hbo0 hbo1 hbo hg5))
      have hval := Hval.out
      rw [List.drop_zero] at hval
      have hok : planOk at0 cs = true := by
        simp only [planOk, Bool.and_eq_true, List.all_eq_true, hi, decide_eq_true_eq, true_and]
        exact ⟨hl, fun c hc => by simp only [colB, decide_eq_true_eq]; exact hval c hc⟩
      have hglt := hglr.lt
      have hbalt := hbar.lt
      have hB5 : Below w.heap.size w w5 := hB.drew.trans ((grown_below (B := w.heap.size) hg5 hB.size (by simp)))
      have hgl5 : Blk w5 gl 55 (leftCells bs 0 cs.length) := (Blk.drew hglr).grown hg5 (by simp)
      have hba5 : Blk w5 ba 3 [.int .i64 at0] := (Blk.drew hbar).grown hg5 (by simp)
      have hbs5 : ∀ j, j ≤ cs.length → bs j ≠ bo ∧ bs j ≠ ba ∧ Blk w5 (bs j) 57 (lenCells (lenF (cs.drop j))) := fun j hj => by
        obtain ⟨h1, h2⟩ := Hbs.out j (by omega) hj
        have h3 := h2.lt
        have h4 : wr.heap.size ≤ bo := hbo0
        exact ⟨by omega, by omega, (Blk.drew h2).grown hg5 (by simp)⟩
      have hcs5 : SlI w5 ao cs := hcs.below hB5
      have hbo5 : wr.heap.size ≤ bo := hbo0
      have Hb5 := hid hbs5
      clear hbs5 hg5 hbo0 hlc hat hp0 hblk0 hgb0
      have hboe : Blk w5 bo 46 [.slice none 0 0] := by simpa [Value.cells] using hbo
      clear hbo
      have Hok := hid hok
      have Hvl := hid hval
      clear hok hval
      clear hba hg1 hgl hg2 hbz hg3 hll4 hbz4 hba4 hB4 Hbs Hval hB hmk
      go_step3
      go_wp2
      go_loopw [73] (fun s73 wr => ∃ (k : Nat) (at_ : Int) (outv : Value) (xs : List Int), s73 = .int .i64 k ∧ k ≤ cs.length ∧ -48 ≤ at_ ∧ at_ ≤ 48 ∧ Chg (fun q => q = bo ∨ q = ba ∨ w5.heap.size ≤ q) w5 wr ∧
          Blk wr bo 46 [outv] ∧ Blk wr ba 3 [.int .i64 at_] ∧ wr.ownsRow w5.heap.size 3 1 outv xs.length (xs.map (Value.int .i64)) ∧ xs.length ≤ k ∧ xs ++ planL at_ (cs.drop k) = planL at0 cs) (fun s73 _ => cs.length - (intOf s73).toNat)
      case atStart => exact ⟨0, at0, _, [], rfl, by omega, hib1, hib2, Chg.refl _ _, hboe, hba5, World.ownsRow_nil _ _ _ _, by simp, by simp⟩
      case round =>
        obtain ⟨wo, hwo⟩ : ∃ wo : World, wo = wr := ⟨_, rfl⟩
        subst hwo
        obtain ⟨k, at_, outv, xs, rfl, hk, ha1, ha2, hch, hbor, hbarr, hrow, hxl, hpl⟩ := hrel
        by_cases hlt : k < cs.length
        · obtain ⟨c, hc⟩ : ∃ c, cs[k]? = some c := ⟨_, List.getElem?_eq_getElem hlt⟩
          obtain ⟨b, off, rfl, hb, hx0⟩ := hcs.cell k c hc
          have hmem : c ∈ cs := List.mem_of_getElem? hc
          obtain ⟨h0, h1⟩ := Hvl.out c hmem
          have hdrop : cs.drop k = c :: cs.drop (k + 1) := by
            rw [List.drop_eq_getElem_cons hlt]
            have hce : cs[k] = c := by rw [List.getElem?_eq_getElem hlt] at hc; exact Option.some.inj hc
            rw [hce]
          have Hdrop := hid hdrop
          clear hdrop hc
          have hne := reachL_ne c h0 h1
          have hso := hch.size
          have hS5 : ∀ q, q < w5.heap.size → q ≠ bo → q ≠ ba → ¬ (q = bo ∨ q = ba ∨ w5.heap.size ≤ q) := fun q h1 h2 h3 h => by omega
          have HS5 := hid hS5
          clear hS5
          have hgl5lt := hgl5.lt
          have hbolt := hboe.lt
          have hba5lt := hba5.lt
          have hB5s := hB5.size
          have hglo : Blk wo gl 55 (leftCells bs 0 cs.length) := hgl5.chg hch (HS5.out gl (by omega) (by omega) (by omega))
          obtain ⟨e1, e2, e3⟩ := Hb5.out (k + 1) (by omega)
          have hbk1 : Blk wo (bs (k + 1)) 57 (lenCells (lenF (cs.drop (k + 1)))) := e3.chg hch (HS5.out _ e3.lt e1 e2)
          obtain ⟨e4, e5, e6⟩ := Hb5.out k (by omega)
          have hbk0 : Blk wo (bs k) 57 (lenCells (lenF (cs.drop k))) := e6.chg hch (HS5.out _ e6.lt e4 e5)
          clear e1 e2 e3 e4 e5 e6
          have hx : wo.cell? ⟨b, off + k, none⟩ = some (.int .i64 c) := by
            rw [← hx0, ← hB5.cell (p := ⟨b, off + k, none⟩) hb]
            exact World.cell?_of_block (w := w5) (hch.block b (by omega) (HS5.out b (by omega) (by omega) (by omega)))
          clear hx0
          have hI1 : (k : Int) < (cs.length : Int) := by omega
          have Hpl := hid hpl
          clear hpl
          go_wp2_with (first | (go_at_call 35; refine (reach_any c _ h0 h1).mono ?_; rintro e w6 ⟨v, rfl, hm6⟩; obtain ⟨g6, cap6, cur6, rfl, hg6, hcur6, hcap6, hmax6, hrd6⟩ := hm6.open (by simpa using hne)))
          unfold maxLen at hmax6
          have hrl : ((reachL c).map (Value.int .i64)).length = (reachL c).length := by simp
          have hgl6 := (hglo.below hm6.below hglo.lt)
          have hbk16 := (hbk1.below hm6.below hbk1.lt)
          have hbk06 := (hbk0.below hm6.below hbk0.lt)
          have hba6 := (hbarr.below hm6.below hbarr.lt)
          have hbo6 := (hbor.below hm6.below hbor.lt)
          have hch6 : Chg (fun q => q = bo ∨ q = ba ∨ w5.heap.size ≤ q) w5 w6 := hch.below hm6.below (fun q _ h => .inr (.inr (by omega)))
          have hrow6 : w6.ownsRow w5.heap.size 3 1 outv xs.length (xs.map (Value.int .i64)) := ownsRow_chg hrow (Chg.below (S := fun q => wo.heap.size ≤ q) (Chg.refl _ wo) hm6.below (fun q _ h => h)) (fun q hq => by have := (hrow.lt q hq).2; omega)
          go_loopw [85] (fun s85 wr => ∃ j : Nat, s85 = .int .i64 j ∧ j ≤ (reachL c).length ∧ Chg (fun _ => False) w6 wr ∧
              (∀ i, i < j → ∀ q, (reachL c)[i]? = some q → (max (at_ - q) (q - at_) + lenF (cs.drop (k + 1)) q == lenF (cs.drop k) at_) = false)) (fun s85 _ => (reachL c).length - (intOf s85).toNat)
          case atStart => exact ⟨0, rfl, by omega, Chg.refl _ _, fun i hi => by omega⟩
          case round =>
            obtain ⟨j, rfl, hj, hchr, hno⟩ := hrel
            have Hno := hid hno
            clear hno
            have hglr := hgl6.chg hchr (fun h => h)
            have hbk1r := hbk16.chg hchr (fun h => h)
            have hbk0r := hbk06.chg hchr (fun h => h)
            have hbar := hba6.chg hchr (fun h => h)
            have hbor6 := hbo6.chg hchr (fun h => h)
            have hcurr := hcur6.chg hchr (fun h => h)
            by_cases hjl : j < (reachL c).length
            · obtain ⟨p, hp⟩ : ∃ p, (reachL c)[j]? = some p := ⟨_, List.getElem?_eq_getElem hjl⟩
              obtain ⟨hp1, hp2⟩ := reachL_mem c p (List.mem_of_getElem? hp)
              have hpc : wr.cell? ⟨g6, j, none⟩ = some (.int .i64 p) := by
                rw [hcurr.cell, hrd6 j (by omega)]; simp [hp]
              have Hp := hid hp
              clear hp
              have hI2 : (j : Int) < ((reachL c).length : Int) := by omega
              have hac := hbar.cell 0
              have hl1 := hglr.cell (k + 1)
              rw [leftCells_get _ _ _ _ (by omega), if_neg (by omega)] at hl1
              have hl0 := hglr.cell k
              rw [leftCells_get _ _ _ _ (by omega), if_neg (by omega)] at hl0
              have hv1 := hbk1r.cell (p + 48).toNat
              rw [lenCells_get _ _ hp1 hp2] at hv1
              have hv0 := hbk0r.cell (at_ + 48).toNat
              rw [lenCells_get _ _ ha1 ha2] at hv0
              obtain ⟨b1, b2⟩ := lenF_bd (cs.drop (k + 1)) p
              have hI3 : (k : Int) + 1 < (cs.length : Int) + 1 := by omega
              have hd := fun w' => turned (dist_any at_ p (by omega) (by omega) (by omega) (by omega) w')
              have HD := hid hd
              clear hd
              have hrow7 : wr.drew.ownsRow w5.heap.size 3 1 outv xs.length (xs.map (Value.int .i64)) := (ownsRow_chg hrow6 hchr (fun _ _ h => h)).drew
              have hchd : Chg (fun q => q = bo ∨ q = ba ∨ w5.heap.size ≤ q) w5 wr.drew := (hch6.trans (hchr.mono (fun _ _ h => h.elim))).drew
              have hwl := hchd.size
              cases ht : (max (at_ - p) (p - at_) + lenF (cs.drop (k + 1)) p == lenF (cs.drop k) at_) with
              | true =>
                have HT := hid ht
                go_wp2
                refine wp_region_quiet_all (by kernel_rfl) (by kernel_rfl) ?_
                repeat (go_big_quiet_step (fail))
                go_big_quiet_want
                go_big_quiet_op
                refine ⟨_, HD.out _, ?_⟩
                go_big_quiet_on
                repeat (go_big_quiet_step (fail))
                refine wpQuiet_end ?_
                go_wp2_with (first | (go_at_call 34; refine (step_any p at_ bo ba w5.heap.size outv xs _ hbor6.drew hbar.drew (by omega) hbolt hba5lt hwl hrow7 (by omega)).mono ?_; rintro e w8 ⟨rfl, v8, hbo8, hba8, hrow8, hch8⟩))
                have hfin : (xs ++ [p]) ++ planL p (cs.drop (k + 1)) = planL at0 cs := by
                  rw [← Hpl.out, Hdrop.out, planL_hit at_ c p (cs.drop (k + 1)) j Hp.out (fun i hi q hq => by rw [← Hdrop.out]; exact Hno.out i hi q hq) (by rw [← Hdrop.out]; exact HT.out)]
                  simp
                go_roundw
                case rel => exact ⟨k + 1, p, v8, xs ++ [p], by go_num, by omega, hp1, hp2, hchd.trans hch8, hbo8, hba8, hrow8, by simp <;> omega, hfin⟩
                case measure => simp [intOf] <;> omega
              | false =>
                have HT := hid ht
                go_wp2
                refine wp_region_quiet_all (by kernel_rfl) (by kernel_rfl) ?_
                repeat (go_big_quiet_step (fail))
                go_big_quiet_want
                go_big_quiet_op
                refine ⟨_, HD.out _, ?_⟩
                go_big_quiet_on
                repeat (go_big_quiet_step (fail))
                refine wpQuiet_end ?_
                go_wp2
                go_roundw
                case rel =>
                  refine ⟨j + 1, by go_num, by omega, hchr.drew, fun i hi q hq => ?_⟩
                  by_cases hij : i = j
                  · subst hij
                    obtain rfl : q = p := Option.some.inj (hq.symm.trans Hp.out)
                    exact HT.out
                  · exact Hno.out i (by omega) q hq
                case measure => simp [intOf] <;> omega
            · obtain rfl : j = (reachL c).length := by omega
              have hrow7 : wr.ownsRow w5.heap.size 3 1 outv xs.length (xs.map (Value.int .i64)) := ownsRow_chg hrow6 hchr (fun _ _ h => h)
              have hchd : Chg (fun q => q = bo ∨ q = ba ∨ w5.heap.size ≤ q) w5 wr := hch6.trans (hchr.mono (fun _ _ h => h.elim))
              go_wp2
              have hfin : xs ++ planL at_ (cs.drop (k + 1)) = planL at0 cs := by
                rw [← Hpl.out, Hdrop.out, planL_miss at_ c (cs.drop (k + 1)) (fun i hi q hq => by rw [← Hdrop.out]; exact Hno.out i hi q hq)]
              go_roundw
              case rel => exact ⟨k + 1, at_, outv, xs, by go_num, by omega, ha1, ha2, hchd, hbor6, hbar, hrow7, by omega, hfin⟩
              case measure => simp [intOf] <;> omega
        · obtain rfl : k = cs.length := by omega
          rw [List.drop_length] at hpl
          simp only [planL, List.append_nil] at hpl
          have hboc := hbor.cell 0
          have Hpl := hid hpl
          clear hpl
          go_wp2
          rw [Exit.noGoto_ret]
          go_ret3
          have hfin := Hpl.out
          have hB : Below w.heap.size w wo := hB5.trans (hch.toBelow hB5.size (fun q h => by have := hB5.size; omega))
          refine ⟨fun hk => (by rw [Hok.out] at hk; cases hk), fun _ => ⟨_, rfl, ?_, hB, hB.size⟩⟩
          rw [← hfin]
          simpa using ownsRow_mono hrow hB5.size
end Go.Proofs.YthnkahilaampmaaDoor
