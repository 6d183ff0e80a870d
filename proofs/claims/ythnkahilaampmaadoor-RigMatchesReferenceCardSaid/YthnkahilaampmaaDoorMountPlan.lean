import Derived.Test.YthnkahilaampmaaDoorMountBefore
import Derived.BigQuiet
namespace Go.Proofs.YthnkahilaampmaaDoor
open Go.RowKit

theorem step_any (p at0 : Int) (bo ba B : Nat) (outv : Value) (xs : List Int) (w : World) (hbo : Blk w bo 46 [outv]) (hba : Blk w ba 3 [.int .i64 at0]) (hne : bo ≠ ba) (hoB : bo < B) (haB : ba < B) (hB : B ≤ w.heap.size)
    (hrow : w.ownsRow B 3 1 outv xs.length (xs.map (Value.int .i64))) (hlen : xs.length ≤ 1000) :
    Calls Tryd.prog 34 #[.int .i64 p, .pointer (some ⟨bo, 0, none⟩), .pointer (some ⟨ba, 0, none⟩)] w fun e w' => e = .returned (.tuple #[]) ∧
      ∃ v', Blk w' bo 46 [v'] ∧ Blk w' ba 3 [.int .i64 p] ∧ w'.ownsRow B 3 1 v' (xs ++ [p]).length ((xs ++ [p]).map (Value.int .i64)) ∧ Chg (fun k => k = bo ∨ k = ba ∨ B ≤ k) w w' := by
  have hbc := hbo.cell 0
  have hbf := hbo.free 0
  have hm : Mine B w w 3 outv (xs.map (Value.int .i64)) := ⟨by simpa using hrow, Below.refl _ _, hB⟩
  have hno : some bo ≠ outv.ownBlock := fun e => by have := (hrow.lt bo e.symm).1; omega
  have hna : some ba ≠ outv.ownBlock := fun e => by have := (hrow.lt ba e.symm).1; omega
  go_enter Tryd.func34, Tryd.ntmps34
  go_wp2_with (at_builtin; refine wpl_app1 rfl _ _ 46 rfl 3 _ _ Tryd.underlying46 Tryd.info3 rfl _ _ _ _ hm rfl _ rfl rfl (by unfold maxLen; simp; omega) (by simp; omega) ?_; intro g1 cap1 w1 hm1 hg1 hB1 hat1; have hc1 := (hbo.grown hg1 hno).cell 0; have hf1 := (hbo.grown hg1 hno).free 0; have hd1 := (hba.grown hg1 hna).cell 0; have he1 := (hba.grown hg1 hna).free 0)
  go_end0
  refine ⟨rfl, _, ((hbo.grown hg1 hno).set 0 _).other _ (by simpa using hne) _, ((hba.grown hg1 hna).other _ (by simpa using hne.symm) _).set 0 _, ?_, ?_⟩
  · have := ownsRow_setCell_below (ownsRow_setCell_below hm1.own (a := ⟨bo, 0, none⟩) hoB (.slice (some ⟨g1, 0, none⟩) (xs.length + 1) cap1)) (a := ⟨ba, 0, none⟩) haB (.int .i64 p)
    simpa using this
  · refine (((Chg.refl _ w).grown hg1 ?_).set (.inl rfl) _).set (.inr (.inl rfl)) _
    intro k hk
    exact .inr (.inr (hrow.lt k hk).1)
end Go.Proofs.YthnkahilaampmaaDoor
