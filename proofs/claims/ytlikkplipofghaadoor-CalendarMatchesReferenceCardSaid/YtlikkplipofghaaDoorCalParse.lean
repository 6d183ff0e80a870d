/- calendar: Parse -/
import Derived.Test.YtlikkplipofghaaDoorCalStr
namespace Go.Proofs.YtlikkplipofghaaDoor
open Go.RowKit

theorem chg_of_below {S : Nat → Prop} {w w' : World} (h : Below w.heap.size w w') : Chg S w w' := ⟨h.os, h.tape, h.output, h.size, fun k hk _ => h.block k hk⟩

theorem str_ne {s t : ByteArray} (h : ¬ s = t) : (s.toList == t.toList) = false := by
  rw [ByteArray.toList_eq, ByteArray.toList_eq]
  simpa using fun e => h (str_ext (by simpa using e))
/-- a text is the numeral of the number that it spells -/
def numB (l : List UInt8) : Bool := atoiB l && decide (Lib.itoa (atoiV l) = l)

set_option maxHeartbeats 1000000 in
theorem number_any (s : ByteArray) (bf : Nat) (f : Bool) (w : World) (hs : s.size ≤ 1000000) (hL : Lay w) (hb : Blk w bf 4 [.bool f]) :
    Calls Tryd.prog 25 #[.string s, .pointer (some ⟨bf, 0, none⟩)] w fun e w' => e = .returned (.int .i64 (atoiV s.data.toList)) ∧ Blk w' bf 4 [.bool (f || !numB s.data.toList)] ∧ Chg (fun k => k = bf) w w' := by
  have h1 := fun w hL => atoi_any s w (by omega) hL
  have h2 := fun w hL => itoa_any (atoiV s.data.toList) w (atoiV_bd _) hL
  have hn : numB s.data.toList = (atoiB s.data.toList && decide ((⟨(Lib.itoa (atoiV s.data.toList)).toArray⟩ : ByteArray) = s)) := by
    unfold numB
    congr 1
    apply decide_eq_decide.2
    constructor
    · intro h; rw [h]
    · intro h; have := congrArg (fun s => s.data.toList) h; simpa using this
  rw [hn]
  clear hn
  generalize (⟨(Lib.itoa (atoiV s.data.toList)).toArray⟩ : ByteArray) = t at *
  generalize atoiV s.data.toList = n at *
  generalize atoiB s.data.toList = ok at *
  have H1 := hid h1
  have H2 := hid h2
  clear h1 h2
  go_enter Tryd.func25, Tryd.ntmps25
  go_wp2_with fail
  refine (H1.out _ hL).mono ?_
  rintro e w1 ⟨ev, rfl, hB1, hev⟩
  have hb1 := hb.below hB1 hb.lt
  have c1 := hb1.cell 0
  have f1 := hb1.free 0
  cases f
  · rcases hev with ⟨rfl, rfl⟩ | ⟨rfl, tt, p, rfl⟩
    · go_wp2_with fail
      refine (H2.out _ (hL.below hB1)).mono ?_
      rintro e w2 ⟨rfl, hB2⟩
      have hb2 := hb1.below hB2 hb1.lt
      have c2 := hb2.cell 0
      have f2 := hb2.free 0
      clear c1 f1
      by_cases hts : t = s
      · subst hts
        go_wp2_with fail
        go_ret
        refine ⟨rfl, ?_, (chg_of_below (S := fun k => k = bf) (bthen hB1 hB2)).set rfl _⟩
        simpa using hb2.set 0 (.bool false)
      · have hne := str_ne hts
        go_wp2_with fail
        go_ret
        refine ⟨rfl, ?_, (chg_of_below (S := fun k => k = bf) (bthen hB1 hB2)).set rfl _⟩
        simpa [hts] using hb2.set 0 (.bool true)
    · go_wp2_with fail
      go_ret
      refine ⟨rfl, ?_, (chg_of_below (S := fun k => k = bf) hB1).set rfl _⟩
      simpa using hb1.set 0 (.bool true)
  · go_wp2_with fail
    go_ret
    refine ⟨rfl, ?_, (chg_of_below (S := fun k => k = bf) hB1).set rfl _⟩
    simpa using hb1.set 0 (.bool true)

def parseA (l : List UInt8) : Int := atoiV (cutF l).1
def parseS (l : List UInt8) : Int := atoiV (cutF l).2
/-- the text is the string of a moment -/
def parseOk (l : List UInt8) : Prop := (numB (cutF l).1 = true ∧ numB (cutF l).2 = true) ∧ (0 ≤ parseA l ∧ parseA l < 400) ∧ 0 ≤ parseS l ∧ parseS l < 96
instance (l : List UInt8) : Decidable (parseOk l) := by unfold parseOk; infer_instance
def parseV (l : List UInt8) : Int := if parseOk l then parseA l * 96 + parseS l else 0
def parseE (l : List UInt8) : Int := if parseOk l then 0 else 5



set_option maxHeartbeats 2000000 in
theorem parse_any (s : ByteArray) (w : World) (hs : s.size ≤ 100000) (hL : Lay w) :
    Calls Tryd.prog 16 #[.string s] w fun e w' => e = .returned (.tuple #[.int .i64 (parseV s.data.toList), .int .i64 (parseE s.data.toList)]) ∧ Below w.heap.size w w' := by
  have hc := fun w => strcut_any s w (by omega)
  obtain ⟨l, hl⟩ : ∃ l, s.data.toList = l := ⟨_, rfl⟩
  have hll : l.length ≤ 100000 := by rw [← hl]; have e : s.data.toList.length = s.size := Array.length_toList; omega
  have hc1 : (cutF l).1.length ≤ 100000 := by unfold cutF; split <;> simp <;> omega
  have hc2 : (cutF l).2.length ≤ 100000 := by unfold cutF; split <;> simp <;> omega
  rw [hl] at hc ⊢
  clear hl hll
  have n1 := fun bf f w => number_any ⟨(cutF l).1.toArray⟩ bf f w (by show (cutF l).1.toArray.size ≤ _; simp; omega)
  have n2 := fun bf f w => number_any ⟨(cutF l).2.toArray⟩ bf f w (by show (cutF l).2.toArray.size ≤ _; simp; omega)
  dsimp only at n1 n2

  clear hc1 hc2
  have hy : parseOk l → parseV l = parseA l * 96 + parseS l ∧ parseE l = 0 := fun h => ⟨if_pos h, if_pos h⟩
  have hn : ¬ parseOk l → parseV l = 0 ∧ parseE l = 5 := fun h => ⟨if_neg h, if_neg h⟩
  generalize parseV l = V at *
  generalize parseE l = E at *
  unfold parseOk parseA parseS at hy hn
  generalize (⟨(cutF l).1.toArray⟩ : ByteArray) = a at *
  generalize (⟨(cutF l).2.toArray⟩ : ByteArray) = b at *
  generalize atoiV (cutF l).1 = x at *
  generalize atoiV (cutF l).2 = y at *
  generalize numB (cutF l).1 = o1 at *
  generalize numB (cutF l).2 = o2 at *
  have HC := hid hc
  have N1 := hid n1
  have N2 := hid n2
  clear hc n1 n2
  by_cases hm : (0 ≤ x ∧ x < 400) ∧ 0 ≤ y ∧ y < 96
  · have HM := hid (fun w => moment_yes x y w hm.1 hm.2)
    by_cases ho : o1 = true ∧ o2 = true
    · obtain ⟨rfl, rfl⟩ := hy ⟨ho, hm⟩
      obtain ⟨rfl, rfl⟩ := ho
      clear hm hy hn
      go_enter Tryd.func16, Tryd.ntmps16  ;go_wp2_with (first | (refine wpl_alloc rfl 4 rfl (.bool false) (by kernel_rfl) ?_; intro w1 bf hf0 hf1 hbf hgf; have hb1 : Blk w1 bf 4 [.bool false] := hbf; have c1 := hb1.cell 0; have f1 := hb1.free 0))
      have hbA : Blk (w1.setCell ⟨bf, 0, none⟩ (.bool false)) bf 4 [.bool false] := hb1.set 0 (.bool false)  ;have hBA : Below w.heap.size w (w1.setCell ⟨bf, 0, none⟩ (.bool false)) := (grown_below hgf (Nat.le_refl _) (by simp)).setCell hf0 _  ;generalize w1.setCell ⟨bf, 0, none⟩ (.bool false) = wA at *  ;clear c1 f1 hbf hb1 hgf  ;refine (HC.out _).mono ?_  ;rintro e w2 ⟨ff, rfl, hB2⟩  ;have hb2 := hbA.below hB2 hbA.lt  ;have hBW2 := hBA.trans (hB2.mono hBA.size)  ;go_wp2_with fail  ;refine (N1.out bf false _ (hL.below hBW2) hb2).mono ?_  ;rintro e w3 ⟨rfl, hb3, hc3⟩  ;have hBW3 := hBW2.trans (hc3.toBelow hBW2.size (fun k e => by omega))  ;go_wp2_with fail  ;refine (N2.out bf _ _ (hL.below hBW3) hb3).mono ?_  ;rintro e w4 ⟨rfl, hb4, hc4⟩  ;have hBW4 := hBW3.trans (hc4.toBelow hBW3.size (fun k e => by omega))  ;go_wp2_with fail  ;refine (HM.out _).mono ?_  ;rintro e w' ⟨rfl, rfl⟩  ;have cc := hb4.cell 0
      go_wp2_with fail
      go_ret2
      exact ⟨rfl, hBW4⟩
    · obtain ⟨rfl, rfl⟩ := hn (fun h => ho h.1)
      have hof : (((false || !o1) || !o2) : Bool) = true := by
        cases o1 <;> cases o2 <;> simp at ho ⊢
      clear hm hy hn ho
      go_enter Tryd.func16, Tryd.ntmps16  ;go_wp2_with (first | (refine wpl_alloc rfl 4 rfl (.bool false) (by kernel_rfl) ?_; intro w1 bf hf0 hf1 hbf hgf; have hb1 : Blk w1 bf 4 [.bool false] := hbf; have c1 := hb1.cell 0; have f1 := hb1.free 0))
      have hbA : Blk (w1.setCell ⟨bf, 0, none⟩ (.bool false)) bf 4 [.bool false] := hb1.set 0 (.bool false)  ;have hBA : Below w.heap.size w (w1.setCell ⟨bf, 0, none⟩ (.bool false)) := (grown_below hgf (Nat.le_refl _) (by simp)).setCell hf0 _  ;generalize w1.setCell ⟨bf, 0, none⟩ (.bool false) = wA at *  ;clear c1 f1 hbf hb1 hgf  ;refine (HC.out _).mono ?_  ;rintro e w2 ⟨ff, rfl, hB2⟩  ;have hb2 := hbA.below hB2 hbA.lt  ;have hBW2 := hBA.trans (hB2.mono hBA.size)  ;go_wp2_with fail  ;refine (N1.out bf false _ (hL.below hBW2) hb2).mono ?_  ;rintro e w3 ⟨rfl, hb3, hc3⟩  ;have hBW3 := hBW2.trans (hc3.toBelow hBW2.size (fun k e => by omega))  ;go_wp2_with fail  ;refine (N2.out bf _ _ (hL.below hBW3) hb3).mono ?_  ;rintro e w4 ⟨rfl, hb4, hc4⟩  ;have hBW4 := hBW3.trans (hc4.toBelow hBW3.size (fun k e => by omega))  ;go_wp2_with fail  ;refine (HM.out _).mono ?_  ;rintro e w' ⟨rfl, rfl⟩  ;have cc := hb4.cell 0
      rw [hof] at cc
      go_wp2_with fail
      go_ret2
      exact ⟨rfl, hBW4⟩
  · obtain ⟨rfl, rfl⟩ := hn (fun h => hm h.2)
    have HM := hid (fun w => moment_no x y w hm)
    clear hm hy hn
    go_enter Tryd.func16, Tryd.ntmps16  ;go_wp2_with (first | (refine wpl_alloc rfl 4 rfl (.bool false) (by kernel_rfl) ?_; intro w1 bf hf0 hf1 hbf hgf; have hb1 : Blk w1 bf 4 [.bool false] := hbf; have c1 := hb1.cell 0; have f1 := hb1.free 0))
    have hbA : Blk (w1.setCell ⟨bf, 0, none⟩ (.bool false)) bf 4 [.bool false] := hb1.set 0 (.bool false)  ;have hBA : Below w.heap.size w (w1.setCell ⟨bf, 0, none⟩ (.bool false)) := (grown_below hgf (Nat.le_refl _) (by simp)).setCell hf0 _  ;generalize w1.setCell ⟨bf, 0, none⟩ (.bool false) = wA at *  ;clear c1 f1 hbf hb1 hgf  ;refine (HC.out _).mono ?_  ;rintro e w2 ⟨ff, rfl, hB2⟩  ;have hb2 := hbA.below hB2 hbA.lt  ;have hBW2 := hBA.trans (hB2.mono hBA.size)  ;go_wp2_with fail  ;refine (N1.out bf false _ (hL.below hBW2) hb2).mono ?_  ;rintro e w3 ⟨rfl, hb3, hc3⟩  ;have hBW3 := hBW2.trans (hc3.toBelow hBW2.size (fun k e => by omega))  ;go_wp2_with fail  ;refine (N2.out bf _ _ (hL.below hBW3) hb3).mono ?_  ;rintro e w4 ⟨rfl, hb4, hc4⟩  ;have hBW4 := hBW3.trans (hc4.toBelow hBW3.size (fun k e => by omega))  ;go_wp2_with fail  ;refine (HM.out _).mono ?_  ;rintro e w' ⟨rfl, rfl⟩  ;have cc := hb4.cell 0
    cases hof : (((false || !o1) || !o2) : Bool)
    · rw [hof] at cc
      go_wp2_with fail
      go_ret2
      exact ⟨rfl, hBW4⟩
    · rw [hof] at cc
      go_wp2_with fail
      go_ret2
      exact ⟨rfl, hBW4⟩
end Go.Proofs.YtlikkplipofghaaDoor
