/- Rows of structs of the call's own: opened, an element stored, a whole slice appended (beside LexLex, which has MineN.shape). -/
import Derived.Test.YtogcnmjipfllaaaDoorLibN
import Derived.Test.YtogcnmjipfllaaaDoorLib2
namespace Go.Proofs.YtogcnmjipfllaaaDoor
open Go.RowKit

theorem MineN.open {sz B : Nat} {w0 w : World} {E : TypeId} {v : Value} {n : Nat} {xs : List Value} (h : MineN sz B w0 w E v n xs) (hne : 0 < n) :
    ∃ g cap cur, v = .slice (some ⟨g, 0, none⟩) n cap ∧ B ≤ g ∧ Blk w g E cur ∧ n ≤ cap ∧ cap ≤ maxLen ∧ xs.length = n * sz ∧ ∀ i, i < xs.length → cur[i]? = xs[i]? := by
  obtain ⟨h1, h2⟩ := h.own
  rcases h2 with ⟨_, h3⟩ | ⟨g, cap, cur, hv, hg, hh, h4, h5, _, h7⟩
  · omega
  · refine ⟨g, cap, cur.toList, hv, hg, by unfold Blk; simpa using hh, h4, h5, h1, fun i hi => ?_⟩
    have := congrArg (fun l => l[i]?) h7
    rw [h1] at hi
    simpa [List.getElem?_take, hi] using this
theorem MineN.put {sz B : Nat} {w0 w : World} {E : TypeId} {g cap n : Nat} {xs : List Value} (h : MineN sz B w0 w E (.slice (some ⟨g, 0, none⟩) n cap) n xs) (i : Nat) (x : Value) :
    MineN sz B w0 (w.setCell ⟨g, i, none⟩ x) E (.slice (some ⟨g, 0, none⟩) n cap) n (xs.set i x) := by
  obtain ⟨⟨h1, h2⟩, hB, hb⟩ := h
  rcases h2 with ⟨e, _⟩ | ⟨g', cap', cur, hv, hg, hh, h4, h5, h6, h7⟩
  · cases e
  · obtain ⟨⟨⟨rfl⟩⟩, -, rfl⟩ : (some (⟨g, 0, none⟩ : Addr) = some ⟨g', 0, none⟩) ∧ n = n ∧ cap = cap' := by cases hv; exact ⟨rfl, rfl, rfl⟩
    refine ⟨⟨by simpa using h1, .inr ⟨g, cap, cur.set! i x, rfl, hg, ?_, h4, h5, by simpa using h6, ?_⟩⟩, ?_, by simpa [World.setCell] using hb⟩
    · have := (show Blk w g E cur.toList by unfold Blk; simpa using hh).set i x
      unfold Blk at this
      rw [this]
      simp only [Obj.cells.injEq, Option.some.injEq, and_true]
      apply Array.toList_inj.1
      simp
    · rw [← h7]
      simp [List.take_set]
    · exact hB.trans ((Chg.refl (fun k => k = g) w).set (p := ⟨g, i, none⟩) rfl x |>.toBelow hb (fun k e => by omega))
/-- '[]T{}' -/
theorem MineN.empty {sz B : Nat} {w0 w : World} {E : TypeId} (hB : Below B w0 w) (hb : B ≤ w.heap.size) : MineN sz B w0 (w.alloc (.cells #[] E)) E (.slice (some ⟨w.heap.size, 0, none⟩) 0 0) 0 [] :=
  ⟨⟨by simp, .inr ⟨w.heap.size, 0, #[], rfl, hb, by show (w.heap.push _)[w.heap.size]? = _; simp, Nat.le_refl _, by simp, by simp, by simp⟩⟩, hB.alloc hb _, by simp; omega⟩
/-- append(s, x...): s the call's own, x a slice of structs that can be read -/
theorem wpl_appsN {P : Program} {ops : Array Oper} {rest : List Oper} {o : Oper} {a : Act} {Q : Exit → Act → World → Prop} {w : World} (hgd : o.guard = none) (s x : Operand) (T : TypeId)
    (ho : o.op = .call { callee := .builtin .append, args := #[s, x], argTypes := #[T, T] })
    (E : TypeId) (z : Value) (sz bytes : Nat) (ht : P.underlying T = some (.slice E)) (hI : (P.info? E).map (fun i => (i.zero, i.size, i.bytes)) = some (some z, sz, bytes)) (hzs : z.cells.size = sz) (hsz : 0 < sz)
    (B : Nat) (w0 : World) (v : Value) (n : Nat) (xs : List Value) (hm : MineN sz B w0 w E v n xs) (hs : a.eval s = v) (ao : Option Addr) (c m : Nat) (vs : List Value) (hvl : vs.length = m * sz) (hv : SlV w ao vs) (hnone : ao = none → c = 0) (h1 : ∀ u ∈ vs, u.oneCell' = true)
    (hx : a.eval x = .slice ao m c) (k : Nat) (hk : n + m = k) (hlen : k ≤ maxLen) (hbytes : k * bytes ≤ 140737488355328)
    (h : ∀ ao' cap' w', MineN sz B w0 w' E (.slice ao' k cap') k (xs ++ vs) → w.grownBy w' v.ownBlock → wpList P ops Q rest (a.put o.dst (.slice ao' k cap')) w') :
    wpList P ops Q (o :: rest) a w := by
  subst hk
  obtain ⟨i, hi, hz, hsize, hby⟩ := info_parts hI
  have hshape : ∀ {v : Value} {n : Nat} {xs : List Value} {w : World}, w.ownsRow B E sz v n xs → ∃ ao cap, v = .slice ao n cap := by
    intro v n xs w h
    rcases h.2 with ⟨e, h3⟩ | ⟨g, cap, cur, hv, hg, _⟩
    · exact ⟨none, 0, by rw [e, h3]⟩
    · exact ⟨_, cap, hv⟩
  cases ao with
  | none =>
    have hvs : vs = [] := by
      cases vs with
      | nil => rfl
      | cons u vs => obtain ⟨_, _, e, _⟩ := hv.cell 0 u rfl; cases e
    subst hvs
    have hm0 : m = 0 := by
      have : m * sz = 0 := by simpa using hvl.symm
      rcases Nat.mul_eq_zero.1 this with h | h
      · exact h
      · omega
    subst hm0
    have hc := hnone rfl
    subst hc
    refine wpList_plain hgd fun K hK => ?_
    have hrun := run_append_owned_none (P := P) w B T o.type E i sz ht hi _ n xs hm.own
    unfold Oper.wp
    simp only [execOp, ho, resolve, invoke, builtin, Sem.run_bind, Sem.run_pure, Result.andThen_ok, List.map_toArray, List.map_cons, List.map_nil, hs, hx, hrun]
    obtain ⟨ao', cap', e⟩ := hshape hm.own
    have hm2 := hm
    rw [e] at hm2
    have hk := h ao' cap' w (by simpa using hm2) (World.grownBy.refl _ _)
    rw [e]
    exact hK _ _ (by simpa using hk)
  | some ad =>
    refine wpList_append_own_at w hgd s x T ho B E i z sz bytes ht hi hz hsize hby hzs hsz v n xs hs hm.own ad m c vs hx hvl ?_ h1 hlen hbytes hm.base ?_
    · intro j u hj
      obtain ⟨b, off, e, _, hcx⟩ := hv.cell j u hj
      obtain rfl := Option.some.inj e
      rw [addr_add]; exact hcx
    · intro v' w' hown hgrow hnil _
      have hm' : MineN sz B w0 w' E v' (n + m) (xs ++ vs) := ⟨hown, hm.below.grown hgrow hm.base (fun k hk => (hm.own.lt k hk).1), by have := hgrow.size; have := hm.base; omega⟩
      obtain ⟨ao', cap', e⟩ := hshape hm'.own
      subst e
      exact h ao' cap' w' hm' hgrow
end Go.Proofs.YtogcnmjipfllaaaDoor
