import Derived.Test.YtgelhndjdngdnaaAirSlots
import Derived.Test.YtgelhndjdngdnaaLibN
namespace Go.Proofs.Ytgelhndjdngdnaa
open Go.RowKit

theorem Try.info39 : (Try.prog.info? 39).map (fun i => (i.zero, i.size, i.bytes)) = some (some (.agg #[.int .i64 0, .int .i64 0]), 2, 16) := by kernel_rfl

/-- a list of spans as cells -/
def spanCells (l : List (Int × Int)) : List Value := l.flatMap fun x => [.int .i64 x.1, .int .i64 x.2]
theorem spanCells_snoc (l : List (Int × Int)) (a b : Int) : spanCells (l ++ [(a, b)]) = spanCells l ++ [.int .i64 a, .int .i64 b] := by simp [spanCells]

/-- what 'end' does to the open window and the list -/
def endF (slot : Int) (x : Int × List (Int × Int)) : Int × List (Int × Int) := (-1, if 0 ≤ x.1 then x.2 ++ [(x.1, slot - 1)] else x.2)

def EndPost (r : Int × List (Int × Int)) (bf bo B : Nat) (ov : Value) (w : World) (e : Ending) (w' : World) : Prop := e = .returned (.tuple #[]) ∧
      ∃ v', Blk w' bf 3 [.int .i64 r.1] ∧ Blk w' bo 28 [v'] ∧ w'.ownsRow B 39 2 v' r.2.length (spanCells r.2) ∧ Chg (fun k => k = bf ∨ k = bo ∨ ov.ownBlock = some k) w w'

set_option maxHeartbeats 800000 in
theorem end_any (slot f : Int) (bf bo B : Nat) (outv : Value) (xs : List (Int × Int)) (w : World) (hbf : Blk w bf 3 [.int .i64 f]) (hbo : Blk w bo 28 [outv]) (hne : bf ≠ bo) (hfB : bf < B) (hoB : bo < B) (hB : B ≤ w.heap.size)
    (hrow : w.ownsRow B 39 2 outv xs.length (spanCells xs)) (hlen : xs.length ≤ 1000) (s0 : 0 ≤ slot) (s1 : slot ≤ 1000) :
    Calls Try.prog 32 #[.int .i64 slot, .pointer (some ⟨bf, 0, none⟩), .pointer (some ⟨bo, 0, none⟩)] w (EndPost (endF slot (f, xs)) bf bo B outv w) := by
  have cf := hbf.cell 0
  have ff := hbf.free 0
  have co := hbo.cell 0
  have fo := hbo.free 0
  have hm : MineN 2 B w w 39 outv xs.length (spanCells xs) := ⟨hrow, Below.refl _ _, hB⟩
  have hno : some bo ≠ outv.ownBlock := fun e => by have := (hrow.lt bo e.symm).1; omega
  have hnf : some bf ≠ outv.ownBlock := fun e => by have := (hrow.lt bf e.symm).1; omega
  by_cases h : 0 ≤ f
  · have HE := hid (show (endF slot (f, xs)) = (-1, xs ++ [(f, slot - 1)]) by simp [endF, h])
    rw [HE.out]
    go_enter Try.func32, Try.ntmps32
    go_wp2_with (at_builtin; refine wpl_appN rfl _ _ 28 rfl 39 _ 2 16 Try.underlying28 Try.info39 rfl (by decide) _ _ _ _ _ hm rfl _ rfl (by simp [Value.oneCell']) rfl (by unfold maxLen; omega) (by omega) ?_; intro g1 cap1 w1 hm1 hg1 hB1 hat1; have hc1 := (hbo.grown hg1 hno).cell 0; have hf1 := (hbo.grown hg1 hno).free 0; have hd1 := (hbf.grown hg1 hnf).cell 0; have he1 := (hbf.grown hg1 hnf).free 0)
    go_end0
    refine ⟨rfl, _, ((hbf.grown hg1 hnf).other _ (by simpa using hne) _).set 0 _, ((hbo.grown hg1 hno).set 0 _).other _ (by simpa using hne.symm) _, ?_, ?_⟩
    · rw [spanCells_snoc]
      have := ownsRow_chgN hm1.own (((Chg.refl (fun k => k = bf ∨ k = bo) w1).set (p := ⟨bo, 0, none⟩) (.inr rfl) (.slice (some ⟨g1, 0, none⟩) (xs.length + 1) cap1)).set (p := ⟨bf, 0, none⟩) (.inl rfl) (.int .i64 (-1))) (fun k hk => by simp only [Value.ownBlock, Option.some.injEq] at hk; omega)
      simpa using this
    · refine (((Chg.refl _ w).grown hg1 ?_).set (.inr (.inl rfl)) _).set (.inl rfl) _
      intro k hk
      exact .inr (.inr hk)
  · have HE := hid (show (endF slot (f, xs)) = (-1, xs) by simp [endF, h])
    rw [HE.out]
    go_enter Try.func32, Try.ntmps32
    go_wp2
    go_end0
    refine ⟨rfl, _, hbf.set 0 _, hbo.other _ (by simpa using hne.symm) _, ?_, (Chg.refl _ w).set (.inl rfl) _⟩
    exact ownsRow_chgN hrow ((Chg.refl (fun k => k = bf) w).set (p := ⟨bf, 0, none⟩) rfl (.int .i64 (-1))) (fun k hk => by have := (hrow.lt k hk).1; omega)
end Go.Proofs.Ytgelhndjdngdnaa
