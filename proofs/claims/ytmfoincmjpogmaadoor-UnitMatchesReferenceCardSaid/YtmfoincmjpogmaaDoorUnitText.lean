/- unit: Text's closure -/
import Derived.Test.YtmfoincmjpogmaaDoorUnitPower
import Derived.Test.YtmfoincmjpogmaaDoorStrLib
import Derived.Deep.RegionHeld3
import Derived.Deep.RegionLaw
import Derived.Deep.AppendLies
namespace Go.Proofs.YtmfoincmjpogmaaDoor
open Go.RowKit

theorem Tryd.info9 : (Tryd.prog.info? 9).map (fun i => (i.zero, i.size, i.bytes)) = some (some (.string ByteArray.empty), 1, 16) := by kernel_rfl

/-- one factor, if any -/
def facS (name : ByteArray) (n : Int) : List ByteArray := if n = 0 then [] else if n = 1 then [name] else [name ++ (⟨#[94]⟩ : ByteArray) ++ ⟨(Lib.itoa n).toArray⟩]
def strs (l : List ByteArray) : List Value := l.map Value.string

def TextPost (ys : List ByteArray) (bo B : Nat) (ov : Value) (w : World) (e : Ending) (w' : World) : Prop := e = .returned (.tuple #[]) ∧
      ∃ v', Blk w' bo 44 [v'] ∧ w'.ownsRow B 9 1 v' ys.length (strs ys) ∧ Chg (fun k => k = bo ∨ ov.ownBlock = some k) w w'

theorem itoa_is (n : Int) (T : ByteArray) (w : World) (hn : i64B n) (hT : ⟨(Lib.itoa n).toArray⟩ = T) (hL : Lay w) :
    Calls Tryd.prog 24 #[.int .i64 n] w fun e w' => e = .returned (.string T) ∧ Below w.heap.size w w' := by
  subst hT; exact itoa_any n w hn hL
/-- a call by its contract, as a step of a region that draws its order -/
theorem step_call {P : Program} {ops : Array Oper} {o : Oper} {a : Act} {w : World} {K : Act → World → Prop} {Q : Exit → Act → World → Prop} {E : Prop} (hgd : o.guard = none) (f : FuncId) (args : Array Value) (v : Value) (R : World → Prop)
    (hrun : (execOp a.eval o).run P w = .ok (.enter f args) w) (hc : Calls P f args w fun e w' => e = .returned v ∧ R w') (h : ∀ w', R w' → K (a.put o.dst v) w') :
    if Region.wanted o (yielded ops a.tmps) = true then Oper.wp P o a w K Q else E := by
  have hw : Region.wanted o (yielded ops a.tmps) = true := by simp [Region.wanted, hgd]
  rw [if_pos hw]
  unfold Oper.wp
  rw [hrun]
  exact hc.mono (by rintro e w' ⟨rfl, hr⟩; exact h w' hr)
/-- what the append asks, behind the callee -/
theorem app_facts {w w5 : World} {B : Nat} {outv : Value} {xs : List Value} (S : ByteArray) (hgB1 : Below w.heap.size w w5) (hB : B ≤ w.heap.size) (hrow : w.ownsRow B 9 1 outv xs.length xs) :
    B ≤ (w5.alloc (.cells #[.string S] 9)).heap.size ∧ (w5.alloc (.cells #[.string S] 9)).heap.size = w5.heap.size + 1 ∧ (w5.alloc (.cells #[.string S] 9)).ownsRow B 9 1 outv xs.length xs ∧
    (∀ j u, [Value.string S][j]? = some u → (w5.alloc (.cells #[.string S] 9)).cell? ((⟨w5.heap.size, 0, none⟩ : Addr).add j) = some u) := by
  have hs := hgB1.size
  refine ⟨by simp; omega, by simp, ?_, ?_⟩
  · exact ownsRow_chg hrow (((Chg.refl (fun _ => False) w).below hgB1 (fun k h1 h2 => by omega)).alloc _) (fun k _ h => h)
  · exact World.news_of_block (heap_alloc_new w5 _)
set_option maxHeartbeats 2000000 in
set_option maxRecDepth 100000 in
theorem text1_any (name : ByteArray) (n : Int) (bo B : Nat) (outv : Value) (xs : List ByteArray) (w : World) (hL : Lay w) (hbo : Blk w bo 44 [outv]) (hoB : bo < B) (hB : B ≤ w.heap.size)
    (hrow : w.ownsRow B 9 1 outv (strs xs).length (strs xs)) (hlen : (strs xs).length ≤ 100) (hn : -100 ≤ n ∧ n ≤ 100) (hnm : name.size ≤ 100) :
    Calls Tryd.prog 23 #[.string name, .int .i64 n, .pointer (some ⟨bo, 0, none⟩)] w (TextPost (xs ++ facS name n) bo B outv w) := by
  have co := hbo.cell 0
  have fo := hbo.free 0
  simp only [List.getElem?_cons_zero] at co
  have hm : Mine B w w 9 outv (strs xs) := ⟨hrow, Below.refl _ _, hB⟩
  have hno : some bo ≠ outv.ownBlock := fun e => by have := (hrow.lt bo e.symm).1; omega
  by_cases h0 : n = 0
  · have HE := hid (show facS name n = [] by simp [facS, h0])
    rw [HE.out]
    go_enter Tryd.func23, Tryd.ntmps23
    go_wp2_with fail
    go_end0
    refine ⟨rfl, _, hbo, by simpa [strs] using hrow, Chg.refl _ w⟩
  by_cases h1 : n = 1
  · have HE := hid (show facS name n = [name] by simp [facS, h1])
    rw [HE.out]
    go_enter Tryd.func23, Tryd.ntmps23
    go_wp2_with (at_builtin; refine wpl_app1 rfl _ _ 44 rfl 9 _ _ Tryd.underlying44 Tryd.info9 rfl _ _ _ _ hm rfl _ rfl rfl (by unfold maxLen; omega) (by omega) ?_; intro g1 cap1 w1 hm1 hg1 hB1 hat1; have hc1 := (hbo.grown hg1 hno).cell 0; have hf1 := (hbo.grown hg1 hno).free 0)
    go_end0
    refine ⟨rfl, _, (hbo.grown hg1 hno).set 0 _, ?_, ((Chg.refl _ w).grown hg1 (fun k hk => .inr hk)).set (.inl rfl) _⟩
    have := ownsRow_chg hm1.own ((Chg.refl (fun k => k = bo) w1).set (p := ⟨bo, 0, none⟩) rfl (.slice (some ⟨g1, 0, none⟩) ((strs xs).length + 1) cap1)) (fun k hk => by simp only [Value.ownBlock, Option.some.injEq] at hk; omega)
    simpa [strs] using this
  · have hfac : facS name n = [name ++ (⟨#[94]⟩ : ByteArray) ++ ⟨(Lib.itoa n).toArray⟩] := by simp [facS, h0, h1]
    obtain ⟨T, hT⟩ : ∃ T : ByteArray, ⟨(Lib.itoa n).toArray⟩ = T := ⟨_, rfl⟩
    have hTs : T.size ≤ 100 := by
      rw [← hT]
      have := Lib.itoa_length_le n (by omega) (by omega)
      show (Lib.itoa n).toArray.size ≤ 100
      simp; omega
    have n1 : ¬ 9223372036854775807 < name.size + 1 := by omega
    have n2 : ¬ 9223372036854775807 < name.size + 1 + T.size := by omega
    rw [hT] at hfac
    rw [hfac]
    have HT := hid hT
    clear hT hfac
    go_enter Tryd.func23, Tryd.ntmps23
    go_wp2_with fail
    have hIb : i64B n := ⟨by omega, by omega⟩
    have HL := hid hL
    clear hL
    obtain ⟨i9, hi9, hz9, hs9, hb9⟩ := info_parts Tryd.info9
    have HLN := hid hlen
    have a1 : (strs xs).length + 1 ≤ maxLen := by unfold maxLen; omega
    have a2 : ((strs xs).length + 1) * 16 ≤ 140737488355328 := by omega
    have a7 : ∀ u ∈ [Value.string (name ++ (⟨#[94]⟩ : ByteArray) ++ T)], u.oneCell' = true := by intro u hu; simp at hu; subst hu; rfl
    go_region_law
      (first | (refine step_call (by rfl) 24 #[.int .i64 n] (.string T) _ (by kernel_rfl) (itoa_is n T _ hIb HT.out (HL.out.below ((Below.refl _ w).drew))) ?_; intro w5 hgB0; have hgB1 := undrew hgB0; have h5a := (hgB1.cell (p := ⟨bo, 0, none⟩) hbo.lt).trans co; have h5n := World.new_ne w5 _ h5a; have h5c := ((hbo.below hgB1 hbo.lt).alloc (.cells #[.string (name ++ (⟨#[94]⟩ : ByteArray) ++ T)] 9)).cell 0; have hbo5 := hbo.below hgB1 hbo.lt; simp only [List.getElem?_cons_zero] at h5c; obtain ⟨a3, a4, a5, a6⟩ := app_facts (name ++ (⟨#[94]⟩ : ByteArray) ++ T) hgB1 hB hrow)
               | (refine step_append_lies _ (by rfl) _ _ 44 (by rfl) B 9 i9 _ 1 16 Tryd.underlying44 hi9 hz9 hs9 hb9 (by decide) (by decide) outv (strs xs).length (strs xs) (by rfl) a5 ⟨w5.heap.size, 0, none⟩ 1 1 [.string (name ++ (⟨#[94]⟩ : ByteArray) ++ T)] (by rfl) rfl a6 a7 (by decide) a1 a2 a3 (w5.heap.size + 1) a4 ?_; intro g1 cap1 w6 hown6 hgrow6 hat6 hlt6; have hbo6 := (hbo5.alloc (.cells #[.string (name ++ (⟨#[94]⟩ : ByteArray) ++ T)] 9)).grown hgrow6 hno; have h6a := hbo6.cell 0; have h6f := hbo6.free 0))
    all_goals
      have hgB : B ≤ g1 := by
        have := hgB1.size
        rcases hat6 with h | h
        · exact (hrow.lt g1 h).1
        · omega
      simp only [Exit.inBlock]
      go_end0
      refine ⟨rfl, _, hbo6.set 0 _, ?_, (((((Chg.refl _ w).below hgB1 (fun k h1 h2 => by omega)).alloc _).grown hgrow6 (fun k hk => .inr hk))).set (.inl rfl) _⟩
      have := ownsRow_chg hown6 ((Chg.refl (fun k => k = bo) w6).set (p := ⟨bo, 0, none⟩) rfl (.slice (some ⟨g1, 0, none⟩) ((strs xs).length + 1) cap1)) (fun k hk => by simp only [Value.ownBlock, Option.some.injEq] at hk; omega)
      simpa [strs] using this
end Go.Proofs.YtmfoincmjpogmaaDoor
