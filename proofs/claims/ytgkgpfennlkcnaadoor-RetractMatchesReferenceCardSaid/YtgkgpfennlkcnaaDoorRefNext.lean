/- the reference's next: a name -/
import Derived.Test.YtgkgpfennlkcnaaDoorRefGap
import Derived.Test.YtgkgpfennlkcnaaDoorLexTok
import Derived.Deep.CutRange
namespace Go.Proofs.YtgkgpfennlkcnaaDoor
open Go.RowKit

def tok0C : List Value := [.int .i64 0, .string ⟨#[]⟩, .int .i64 0, .int .i64 0]
theorem next_world (i : Nat) (w : World) : ∃ w0 : World, ((w.alloc (.cells #[.int .i64 0, .string ⟨#[]⟩, .int .i64 0, .int .i64 0] 68)).alloc (.cells #[.int .i64 0, .string ⟨#[]⟩, .int .i64 0, .int .i64 i] 68)) = w0 ∧ Blk w0 w.heap.size 68 tok0C ∧
    Blk w0 (w.heap.size + 1) 68 [.int .i64 0, .string ⟨#[]⟩, .int .i64 0, .int .i64 i] ∧ Below w.heap.size w w0 := by
  refine ⟨_, rfl, (Blk.new w _ _).alloc _, ?_, (below_alloc w _).alloc (by simp) _⟩
  have := Blk.new (w.alloc (.cells #[.int .i64 0, .string ⟨#[]⟩, .int .i64 0, .int .i64 0] 68)) #[.int .i64 0, .string ⟨#[]⟩, .int .i64 0, .int .i64 i] 68
  rw [World.size_alloc] at this
  exact this
theorem rlet_is (b : UInt8) (r : Bool) (w : World) (h : decide (cls b = 3) = r) : Calls Tryd.prog 49 #[.int .u8 b.toNat] w fun e w' => e = .returned (.bool r) ∧ w = w' := by
  subst h; exact rletter_any b w
theorem rdig_is (b : UInt8) (r : Bool) (w : World) (h : decide (cls b = 4) = r) : Calls Tryd.prog 51 #[.int .u8 b.toNat] w fun e w' => e = .returned (.bool r) ∧ w = w' := by
  subst h; exact rdigit_any b w
theorem rword_is (b : UInt8) (r : Bool) (w : World) (h : [3, 4, 5].contains (cls b) = r) : Calls Tryd.prog 50 #[.int .u8 b.toNat] w fun e w' => e = .returned (.bool r) ∧ w = w' := by
  subst h; exact rword_any b w

theorem results_row2r {P : Program} {fn : Func} {p q : Tmp} {ty : TypeId} (h : fn.results = #[.cell p ty, .tmp q]) (tmps : Array Value) (w : World) (g : Nat) (t : TypeId) (cs : Array Value) (d : TypeDesc)
    (hp : tmps.getD p undef = .pointer (some ⟨g, 0, none⟩)) (hg : w.heap[g]? = some (.cells cs t (0, 0)))
    (hu : P.underlying ty = some d) (hd : (match d with | .struct _ | .array _ _ => true | _ => false) = true) (hi : (P.info? ty).map (·.size) = some cs.size) :
    (results fn tmps).run P w = .ok (.tuple #[.agg cs, tmps.getD q undef]) w := by
  have hp' : tmps[p]?.getD undef = .pointer (some ⟨g, 0, none⟩) := by simpa using hp
  simp [results, h, hp', asAddr, run_loadVar_row w g t ty cs (0, 0) d hg hu hd hi]
/-- what next hands back -/
def RN (r : Tk) (i : Nat) : Value := match r with
  | .err e => .tuple #[tok0, .int .i64 e]
  | .tok k t n _ => .tuple #[tokV k t n i, .int .i64 0]

set_option maxHeartbeats 2000000 in
set_option maxRecDepth 100000 in
theorem rnext_letter (s : ByteArray) (i : Nat) (w : World) (hs : s.size ≤ 100000) (hi : i < s.size) (hc : atC s.data.toList i = 3) : Calls Tryd.prog 43 #[.string s, .int .i64 i] w fun e w' => e = .returned (RN (tok1 (s.data.toList.drop i)) i) ∧ Below w.heap.size w w' := by
  have HZ := hid (Lib.size_eq s)
  obtain ⟨b, hx⟩ : ∃ b, s[i]'hi = b := ⟨_, rfl⟩
  have hb : s.data.toList[i]? = some b := by rw [← hx]; exact Lib.data_getElem? s i hi
  have hcb : cls b = 3 := by rw [← atC_some hb]; exact hc
  obtain ⟨n, hn⟩ : ∃ n, spanC [3, 4, 5] (s.data.toList.drop i) = n := ⟨_, rfl⟩
  have hle := spanC_le [3, 4, 5] (s.data.toList.drop i)
  rw [List.length_drop, hn, ← HZ.out] at hle
  have hstep := spanC_step (cs := [3, 4, 5]) (l := s.data.toList) (k := i) (by rw [← HZ.out]; exact hi) (by rw [hc]; decide)
  rw [hn] at hstep
  have ht1 : tok1 (s.data.toList.drop i) = if 24 < n then .err 2 else .tok 1 ((s.data.toList.drop i).take n) 0 n := by
    have h0 : atC (s.data.toList.drop i) 0 = 3 := by rw [atC_drop]; exact hc
    unfold tok1
    rw [if_pos h0, hn]
  have HT := hid ht1
  have HST := hid hstep
  have HL := hid (fun w => rlet_is b true w (decide_eq_true hcb))
  clear ht1 hstep hn hcb hc
  obtain ⟨R, HR⟩ : ∃ R, Hid (RN (tok1 (s.data.toList.drop i)) i = R) := ⟨_, hid rfl⟩
  rw [HR.out]
  go_enter Tryd.func43, Tryd.ntmps43
  go_wp2_with fail
  obtain ⟨w0, hw0, hr, ht, hB⟩ := next_world i w
  rw [hw0]
  clear hw0
  obtain ⟨tb, htbd⟩ : ∃ tb, w.heap.size + 1 = tb := ⟨_, rfl⟩
  rw [htbd] at ht ⊢
  have hne : w.heap.size ≠ tb := by omega
  have hle2 : w.heap.size ≤ tb := by omega
  clear htbd
  refine (HL.out _).mono ?_
  rintro e w' ⟨rfl, rfl⟩
  go_wp2_with fail
  go_loopw [6] (fun s6 wr => ∃ m : Nat, s6 = .int .i64 m ∧ i + 1 ≤ m ∧ m ≤ s.size ∧ wr = w0 ∧ Hid (m + spanC [3, 4, 5] (s.data.toList.drop m) = i + n)) (fun s6 _ => s.size - (intOf s6).toNat)
  case atStart => exact ⟨i + 1, by push_cast; rfl, Nat.le_refl _, by omega, rfl, hid (by have := HST.out; omega)⟩
  case round =>
    obtain ⟨m, rfl, hm1, hm2, rfl, HM⟩ := hrel
    by_cases hml : m < s.size
    · obtain ⟨c, hy⟩ : ∃ c, s[m]'hml = c := ⟨_, rfl⟩
      have HC := hid (show s.data.toList[m]? = some c by rw [← hy]; exact Lib.data_getElem? s m hml)
      have hJ : (m : Int) < (s.size : Int) := by omega
      cases hcc : [3, 4, 5].contains (cls c) with
      | true =>
        have HW := hid (fun w => rword_is c true w hcc)
        have HS2 := hid (spanC_step (cs := [3, 4, 5]) (l := s.data.toList) (k := m) (by rw [← HZ.out]; exact hml) (by rw [atC_some HC.out]; exact hcc))
        clear hcc hx
        go_wp2_with fail
        refine (HW.out _).mono ?_
        rintro e w' ⟨rfl, rfl⟩
        go_wp2_with fail
        go_roundw
        case rel => exact ⟨m + 1, by go_num, by omega, by omega, trivial, hid (by have := HM.out; have := HS2.out; omega)⟩
        case measure => simp [intOf]; omega
      | false =>
        have HW := hid (fun w => rword_is c false w hcc)
        have hmn : m = i + n := by
          have := HM.out
          rw [spanC_stop (.inr (by rw [atC_some HC.out]; exact hcc))] at this
          omega
        subst hmn
        clear hcc hx
        go_wp2_with fail
        refine (HW.out _).mono ?_
        rintro e w' ⟨rfl, rfl⟩
        have q0 := ht.cell 0  ;have f0 := ht.free 0  ;simp only [List.getElem?_cons_succ, List.getElem?_cons_zero] at q0  ;go_upto_region 8 with fail  ;replace ht := ht.set 0 (.int .i64 1)  ;replace hr := hr.other ⟨tb, 0, none⟩ hne (.int .i64 1)  ;replace hB := hB.setCell (p := ⟨tb, 0, none⟩) hle2 (.int .i64 1)  ;clear q0 f0
        generalize World.setCell _ _ _ = wq at *
        by_cases hbig : 24 < n
        · have hR : R = .tuple #[tok0, .int .i64 2] := (by rw [← HR.out, HT.out, if_pos hbig]; rfl)  ;subst hR  ;have hbI : 24 < ((i : Int) + (n : Int)) - (i : Int) := (by omega)  ;go_wp2_with (refine wpList_store_row rfl 68 _ _ rfl w.heap.size _ rfl rfl 68 _ hr (by kernel_rfl) rfl (by first | (simp [Value.oneCell']; done) | (simp [Value.oneCell', tok0C]; done)) ?_)  ;(try simp only [Exit.inBlock, Exit.then]); refine bodyPost_ret (results_row2r rfl _ _ w.heap.size 68 _ _ rfl (setRow_heap _ _ _ _ _ _ hr) Tryd.underlying68 rfl (by kernel_rfl)) rfl ?_  ;exact ⟨rfl, below_setRow hB (Nat.le_refl _) _⟩
        · have hR : R = .tuple #[.agg #[.int .i64 1, .string ⟨((s.data.toList.drop i).take n).toArray⟩, .int .i64 0, .int .i64 i], .int .i64 0] := (by rw [← HR.out, HT.out, if_neg hbig]; rfl)  ;subst hR  ;have hbI : ¬ 24 < ((i : Int) + (n : Int)) - (i : Int) := (by omega)  ;have sl := fun w => str_slice (P := Tryd.prog) 9 s i ((i : Int) + (n : Int)) (by omega) (by omega) (by omega) Tryd.underlying9 w  ;have em1 : ((i : Int)).toNat = i := (by omega)  ;have em2 : ((i : Int) + (n : Int)).toNat = i + n := (by omega)  ;rw [em1, em2, ext_take] at sl  ;clear em1 em2  ;obtain ⟨T, hTT⟩ : ∃ T : ByteArray, ⟨((s.data.toList.drop i).take n).toArray⟩ = T := ⟨_, rfl⟩  ;rw [hTT] at sl  ;have HTT := hid hTT  ;clear hTT  ;have q1 := ht.cell 1  ;have f1 := ht.free 1  ;simp only [List.set, List.getElem?_cons_succ, List.getElem?_cons_zero] at q1  ;go_upto_region 34 with fail  ;replace ht := ht.set 1 (.string T)  ;replace hr := hr.other ⟨tb, 1, none⟩ hne (.string T)  ;replace hB := hB.setCell (p := ⟨tb, 1, none⟩) hle2 (.string T)  ;clear q1 f1 sl  ;(generalize World.setCell _ _ _ = wq2 at *)  ;simp only [List.set] at ht  ;go_wp2_with (first | (refine wpList_load_row rfl 68 _ rfl tb rfl 68 _ (0, 0) _ ht Tryd.underlying68 rfl (by kernel_rfl) ?_) | (refine wpList_store_row rfl 68 _ _ rfl w.heap.size _ rfl rfl 68 _ hr (by kernel_rfl) rfl (by first | (simp [Value.oneCell']; done) | (simp [Value.oneCell', tok0C]; done)) ?_))  ;(try simp only [Exit.inBlock, Exit.then]); refine bodyPost_ret (results_row2r rfl _ _ w.heap.size 68 _ _ rfl (setRow_heap _ _ _ _ _ _ hr) Tryd.underlying68 rfl (by kernel_rfl)) rfl ?_  ;refine ⟨?_, below_setRow hB (Nat.le_refl _) _⟩  ;rw [HTT.out]  ;rfl
    · have hJ : ¬ (m : Int) < (s.size : Int) := by omega
      have hmn : m = i + n := by
        have := HM.out
        rw [spanC_stop (.inl (by rw [← HZ.out]; omega))] at this
        omega
      subst hmn
      clear hx
      have q0 := ht.cell 0  ;have f0 := ht.free 0  ;simp only [List.getElem?_cons_succ, List.getElem?_cons_zero] at q0  ;go_upto_region 8 with fail  ;replace ht := ht.set 0 (.int .i64 1)  ;replace hr := hr.other ⟨tb, 0, none⟩ hne (.int .i64 1)  ;replace hB := hB.setCell (p := ⟨tb, 0, none⟩) hle2 (.int .i64 1)  ;clear q0 f0
      generalize World.setCell _ _ _ = wq at *
      by_cases hbig : 24 < n
      · have hR : R = .tuple #[tok0, .int .i64 2] := (by rw [← HR.out, HT.out, if_pos hbig]; rfl)  ;subst hR  ;have hbI : 24 < ((i : Int) + (n : Int)) - (i : Int) := (by omega)  ;go_wp2_with (refine wpList_store_row rfl 68 _ _ rfl w.heap.size _ rfl rfl 68 _ hr (by kernel_rfl) rfl (by first | (simp [Value.oneCell']; done) | (simp [Value.oneCell', tok0C]; done)) ?_)  ;(try simp only [Exit.inBlock, Exit.then]); refine bodyPost_ret (results_row2r rfl _ _ w.heap.size 68 _ _ rfl (setRow_heap _ _ _ _ _ _ hr) Tryd.underlying68 rfl (by kernel_rfl)) rfl ?_  ;exact ⟨rfl, below_setRow hB (Nat.le_refl _) _⟩
      · have hR : R = .tuple #[.agg #[.int .i64 1, .string ⟨((s.data.toList.drop i).take n).toArray⟩, .int .i64 0, .int .i64 i], .int .i64 0] := (by rw [← HR.out, HT.out, if_neg hbig]; rfl)  ;subst hR  ;have hbI : ¬ 24 < ((i : Int) + (n : Int)) - (i : Int) := (by omega)  ;have sl := fun w => str_slice (P := Tryd.prog) 9 s i ((i : Int) + (n : Int)) (by omega) (by omega) (by omega) Tryd.underlying9 w  ;have em1 : ((i : Int)).toNat = i := (by omega)  ;have em2 : ((i : Int) + (n : Int)).toNat = i + n := (by omega)  ;rw [em1, em2, ext_take] at sl  ;clear em1 em2  ;obtain ⟨T, hTT⟩ : ∃ T : ByteArray, ⟨((s.data.toList.drop i).take n).toArray⟩ = T := ⟨_, rfl⟩  ;rw [hTT] at sl  ;have HTT := hid hTT  ;clear hTT  ;have q1 := ht.cell 1  ;have f1 := ht.free 1  ;simp only [List.set, List.getElem?_cons_succ, List.getElem?_cons_zero] at q1  ;go_upto_region 34 with fail  ;replace ht := ht.set 1 (.string T)  ;replace hr := hr.other ⟨tb, 1, none⟩ hne (.string T)  ;replace hB := hB.setCell (p := ⟨tb, 1, none⟩) hle2 (.string T)  ;clear q1 f1 sl  ;(generalize World.setCell _ _ _ = wq2 at *)  ;simp only [List.set] at ht  ;go_wp2_with (first | (refine wpList_load_row rfl 68 _ rfl tb rfl 68 _ (0, 0) _ ht Tryd.underlying68 rfl (by kernel_rfl) ?_) | (refine wpList_store_row rfl 68 _ _ rfl w.heap.size _ rfl rfl 68 _ hr (by kernel_rfl) rfl (by first | (simp [Value.oneCell']; done) | (simp [Value.oneCell', tok0C]; done)) ?_))  ;(try simp only [Exit.inBlock, Exit.then]); refine bodyPost_ret (results_row2r rfl _ _ w.heap.size 68 _ _ rfl (setRow_heap _ _ _ _ _ _ hr) Tryd.underlying68 rfl (by kernel_rfl)) rfl ?_  ;refine ⟨?_, below_setRow hB (Nat.le_refl _) _⟩  ;rw [HTT.out]  ;rfl
end Go.Proofs.YtgkgpfennlkcnaaDoor
