/- Rows of structs of the call's own: opened, an element stored, read by others. -/
import Derived.Test.YtgelhndjdngdnaaLibN
import Derived.Test.YtgelhndjdngdnaaLib2
namespace Go.Proofs.Ytgelhndjdngdnaa
open Go.RowKit

theorem MineN.shape {sz B : Nat} {w0 w : World} {E : TypeId} {v : Value} {n : Nat} {xs : List Value} (h : MineN sz B w0 w E v n xs) : ∃ ao cap, v = .slice ao n cap ∧ (∀ k, v.ownBlock = some k → B ≤ k ∧ k < w.heap.size) := by
  rcases h.own.2 with ⟨e, h3⟩ | ⟨g, cap, cur, hv, hg, _⟩
  · refine ⟨none, 0, by rw [e, h3], fun k hk => h.own.lt k hk⟩
  · exact ⟨_, cap, hv, fun k hk => h.own.lt k hk⟩
theorem MineN.open {sz B : Nat} {w0 w : World} {E : TypeId} {v : Value} {n : Nat} {xs : List Value} (h : MineN sz B w0 w E v n xs) (hne : 0 < n) :
    ∃ g cap cur, v = .slice (some ⟨g, 0, none⟩) n cap ∧ B ≤ g ∧ Blk w g E cur ∧ n ≤ cap ∧ cap ≤ maxLen ∧ xs.length = n * sz ∧ ∀ i, i < xs.length → cur[i]? = xs[i]? := by
  obtain ⟨h1, h2⟩ := h.own
  rcases h2 with ⟨_, h3⟩ | ⟨g, cap, cur, hv, hg, hh, h4, h5, _, h7⟩
  · omega
  · refine ⟨g, cap, cur.toList, hv, hg, by unfold Blk; simpa using hh, h4, h5, h1, fun i hi => ?_⟩
    have := congrArg (fun l => l[i]?) h7
    rw [h1] at hi
    simpa [List.getElem?_take, hi] using this
theorem MineN.put {sz B : Nat} {w0 w : World} {E : TypeId} {g cap n : Nat} {xs : List Value} (h : MineN sz B w0 w E (.slice (some ⟨g, 0, none⟩) n cap) n xs) (i : Nat) (x : Value) :
    MineN sz B w0 (w.setCell ⟨g, i, none⟩ x) E (.slice (some ⟨g, 0, none⟩) n cap) n (xs.set i x) := by
  obtain ⟨⟨h1, h2⟩, hB, hb⟩ := h
  rcases h2 with ⟨e, _⟩ | ⟨g', cap', cur, hv, hg, hh, h4, h5, h6, h7⟩
  · cases e
  · obtain ⟨⟨⟨rfl⟩⟩, -, rfl⟩ : (some (⟨g, 0, none⟩ : Addr) = some ⟨g', 0, none⟩) ∧ n = n ∧ cap = cap' := by cases hv; exact ⟨rfl, rfl, rfl⟩
    refine ⟨⟨by simpa using h1, .inr ⟨g, cap, cur.set! i x, rfl, hg, ?_, h4, h5, by simpa using h6, ?_⟩⟩, ?_, by simpa [World.setCell] using hb⟩
    · have := (show Blk w g E cur.toList by unfold Blk; simpa using hh).set i x
      unfold Blk at this
      rw [this]
      simp only [Obj.cells.injEq, Option.some.injEq, and_true]
      apply Array.toList_inj.1
      simp
    · rw [← h7]
      simp [List.take_set]
    · exact hB.trans ((Chg.refl (fun k => k = g) w).set (p := ⟨g, i, none⟩) rfl x |>.toBelow hb (fun k e => by omega))
/-- what a row is to a reader -/
theorem ownsRow_slv {sz B : Nat} {w : World} {E : TypeId} {v : Value} {n : Nat} {xs : List Value} (h : w.ownsRow B E sz v n xs) (hl : xs.length ≤ maxLen) : ∃ ao cap, v = .slice ao n cap ∧ SlV w ao xs := by
  obtain ⟨h1, h2⟩ := h
  rcases h2 with ⟨e, h3⟩ | ⟨g, cap, cur, hv, hg, hh, h4, h5, _, h7⟩
  · subst h3
    have : xs = [] := List.eq_nil_of_length_eq_zero (by simpa using h1)
    subst this
    exact ⟨none, 0, e, by simp, by simp⟩
  · refine ⟨_, cap, hv, hl, fun i x hi => ⟨g, 0, rfl, (Array.getElem?_eq_some_iff.1 hh).1, ?_⟩⟩
    have hb : Blk w g E cur.toList := by unfold Blk; simpa using hh
    rw [Nat.zero_add, hb.cell i, ← hi, ← h7, List.getElem?_take, if_pos]
    have := (List.getElem?_eq_some_iff.1 hi).1
    rw [h1] at this
    exact this
end Go.Proofs.Ytgelhndjdngdnaa
