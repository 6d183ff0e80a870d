/- In a region that draws its order: an append of a whole slice of structs, a call whose result hangs on the world. -/
import Derived.Test.YtogcnmjipfllaaaDoorLibN3
import Derived.Deep.RegionHeld
import Derived.RegionTactic
import Derived.BigRegion
namespace Go.Proofs.YtogcnmjipfllaaaDoor
open Go.RowKit

theorem MineN.alloc {sz B n : Nat} {w0 w : World} {E : TypeId} {v : Value} {xs : List Value} (h : MineN sz B w0 w E v n xs) (o : Obj) : MineN sz B w0 (w.alloc o) E v n xs :=
  ⟨h.own.alloc o, h.below.alloc h.base o, by have := h.base; rw [World.size_alloc]; omega⟩
/-- append(s, x...) in a region that draws: x any slice that can be read -/
theorem step_appsN {P : Program} {ops : Array Oper} {o : Oper} {a : Act} {w : World} {K : Act → World → Prop} {Q : Exit → Act → World → Prop} {G : Prop} (hgd : o.guard = none) (s x : Operand) (T : TypeId)
    (ho : o.op = .call { callee := .builtin .append, args := #[s, x], argTypes := #[T, T] })
    (E : TypeId) (i : TypeInfo) (z : Value) (sz bytes : Nat) (ht : P.underlying T = some (.slice E)) (hi : P.info? E = some i) (hz : i.zero = some z) (hsize : i.size = sz) (hby : i.bytes = bytes) (hzs : z.cells.size = sz) (hsz : 0 < sz)
    (B : Nat) (v : Value) (n : Nat) (xs : List Value) (hs : a.eval s = v) (hown : w.ownsRow B E sz v n xs) (ao : Option Addr) (c m : Nat) (vs : List Value) (hvl : vs.length = m * sz) (hv : SlV w ao vs) (hnone : ao = none → c = 0) (h1 : ∀ u ∈ vs, u.oneCell' = true)
    (hx : a.eval x = .slice ao m c) (k : Nat) (hk : n + m = k) (hlen : k ≤ maxLen) (hbytes : k * bytes ≤ 140737488355328) (hbase : B ≤ w.heap.size)
    (h : ∀ ao' cap' w', w'.ownsRow B E sz (.slice ao' k cap') k (xs ++ vs) → w.grownBy w' v.ownBlock → K (a.put o.dst (.slice ao' k cap')) w') :
    if Region.wanted o (yielded ops a.tmps) = true then Oper.wp P o a w K Q else G := by
  have hw : Region.wanted o (yielded ops a.tmps) = true := by simp [Region.wanted, hgd]
  rw [if_pos hw]
  subst hk
  have hshape : ∀ {v : Value} {n : Nat} {xs : List Value} {w : World}, w.ownsRow B E sz v n xs → ∃ ao cap, v = .slice ao n cap := by
    intro v n xs w h
    rcases h.2 with ⟨e, h3⟩ | ⟨g, cap, cur, hv, hg, _⟩
    · exact ⟨none, 0, by rw [e, h3]⟩
    · exact ⟨_, cap, hv⟩
  cases ao with
  | none =>
    have hvs : vs = [] := by
      cases vs with
      | nil => rfl
      | cons u vs => obtain ⟨_, _, e, _⟩ := hv.cell 0 u rfl; cases e
    subst hvs
    have hm0 : m = 0 := by
      have : m * sz = 0 := by simpa using hvl.symm
      rcases Nat.mul_eq_zero.1 this with h | h
      · exact h
      · omega
    subst hm0
    have hc := hnone rfl
    subst hc
    have hrun := run_append_owned_none (P := P) w B T o.type E i sz ht hi _ n xs hown
    unfold Oper.wp
    simp only [execOp, ho, resolve, invoke, builtin, Sem.run_bind, Sem.run_pure, Result.andThen_ok, List.map_toArray, List.map_cons, List.map_nil, hs, hx, hrun]
    obtain ⟨ao', cap', e⟩ := hshape hown
    have hm2 := hown
    rw [e] at hm2
    have hk := h ao' cap' w (by simpa using hm2) (World.grownBy.refl _ _)
    rw [e]
    show K (a.put o.dst (.slice ao' (n + 0) cap')) w
    simpa using hk
  | some ad =>
    obtain ⟨v', w', hr, h2, h3, h4, h5⟩ := run_append_own_at (P := P) w B T o.type E i z sz bytes ht hi hz hsize hby hzs hsz v n xs hown ad m c vs hvl (fun j u hj => by
      obtain ⟨b, off, e, _, hcx⟩ := hv.cell j u hj
      obtain rfl := Option.some.inj e
      rw [addr_add]; exact hcx) h1 hlen hbytes hbase
    unfold Oper.wp execOp
    simp only [ho, resolve, invoke, builtin, Sem.run_bind, Sem.run_pure, Result.andThen_ok, List.map_toArray, List.map_cons, List.map_nil, hs, hx, hr]
    obtain ⟨ao', cap', e⟩ := hshape h2
    subst e
    exact h ao' cap' w' h2 h3
theorem SlV.drew {w : World} {ao : Option Addr} {l : List Value} (h : SlV w ao l) : SlV w.drew ao l := ⟨h.len, h.cell⟩
theorem step_callE {P : Program} {ops : Array Oper} {o : Oper} {a : Act} {w : World} {K : Act → World → Prop} {Q : Exit → Act → World → Prop} {E : Prop} (W : World) (hgd : o.guard = none) (f : FuncId) (args : Array Value) (R : Value → World → Prop) (hw : w = W)
    (hrun : (execOp a.eval o).run P W = .ok (.enter f args) W) (hc : Calls P f args W fun e w' => ∃ v, e = .returned v ∧ R v w') (h : ∀ v w', R v w' → K (a.put o.dst v) w') :
    if Region.wanted o (yielded ops a.tmps) = true then Oper.wp P o a w K Q else E := by
  subst hw
  have hw : Region.wanted o (yielded ops a.tmps) = true := by simp [Region.wanted, hgd]
  rw [if_pos hw]
  unfold Oper.wp
  rw [hrun]
  exact hc.mono (by rintro e w' ⟨v, rfl, hr⟩; exact h v w' hr)
theorem slv_made (w : World) (c : Array Value) (E : TypeId) (h : c.size ≤ 1000) : SlV (w.alloc (.cells c E)) (some ⟨w.heap.size, 0, none⟩) c.toList := by
  refine ⟨by unfold maxLen; simp; omega, fun i x hi => ⟨w.heap.size, 0, rfl, by rw [World.size_alloc]; omega, ?_⟩⟩
  have := (Blk.new w c E).cell (0 + i)
  rw [this]
  simpa using hi
theorem SlV.grown {w w' : World} {row : Option Nat} {ao : Option Addr} {l : List Value} (h : SlV w ao l) (hg : w.grownBy w' row) (hn : ∀ b off, ao = some ⟨b, off, none⟩ → row ≠ some b) : SlV w' ao l :=
  ⟨h.len, fun i x hi => by
    obtain ⟨b, off, e, hb, hx⟩ := h.cell i x hi
    have := hg.size
    exact ⟨b, off, e, by omega, by rw [← hx]; exact World.cell?_of_block (w := w) (hg.block b hb (fun q => hn b off e q.symm))⟩⟩
theorem own_rowZ {w : World} {B n sz : Nat} {E : TypeId} {v : Value} {xs : List Value} (h : w.ownsRow B E sz v n xs) (hl : n * sz ≤ maxLen) : ∃ ao cap, v = .slice ao n cap ∧ SlV w ao xs := by
  obtain ⟨h1, h2⟩ := h
  rcases h2 with ⟨e, h3⟩ | ⟨g, cap, cur, hv, hg, hh, h4, h5, h6, h7⟩
  · have hx : xs = [] := List.eq_nil_of_length_eq_zero (by rw [h1, h3]; simp)
    subst hx
    exact ⟨none, 0, by rw [e, h3], ⟨by simp, by simp⟩⟩
  · have hlt : g < w.heap.size := (Array.getElem?_eq_some_iff.1 hh).1
    refine ⟨_, cap, hv, ⟨by omega, fun i x hi => ⟨g, 0, rfl, hlt, ?_⟩⟩⟩
    have hb : Blk w g E cur.toList := by unfold Blk; simpa using hh
    rw [hb.cell, Nat.zero_add]
    have := congrArg (fun l => l[i]?) h7
    have hil := (List.getElem?_eq_some_iff.1 hi).1
    rw [h1] at hil
    simp only [List.getElem?_take] at this
    rw [if_pos (by omega)] at this
    rw [this, hi]
/-! ### at whatever world the region's order has come to -/
theorem bel_al {w W : World} (h : Below w.heap.size w W) (o : Obj) : Below w.heap.size w (W.alloc o) := h.alloc h.size o
theorem bel_then {w W w' : World} (h2 : Below W.heap.size W w') (h : Below w.heap.size w W) : Below w.heap.size w w' := h.trans (h2.mono h.size)
theorem z_fact {W w' : World} {T : TypeId} {l : List Value} {G : Prop} {z : Nat} (B8 : Below W.heap.size W w') (h : Blk W z T l) (k : Blk w' z T l → G) : G := k (h.below B8 h.lt)
theorem blk_after {W w' : World} {T : TypeId} {l : List Value} {z : Nat} (B8 : Below W.heap.size W w') (h : Blk W z T l) : Blk w' z T l := h.below B8 h.lt
theorem blk_ne {W : World} {T U : TypeId} {l m : List Value} {z x : Nat} (h : Blk W z T l) (k : Blk W x U m) (hT : T ≠ U) : z ≠ x ∧ x ≠ z := by
  have h1 : z ≠ x := by
    rintro rfl
    unfold Blk at h k
    rw [h] at k
    cases k
    exact hT rfl
  exact ⟨h1, h1.symm⟩
theorem bel_dr {w W : World} (h : Below w.heap.size w W) : Below w.heap.size w W.drew := h.drew
theorem own_new {W : World} {B e : Nat} (E : TypeId) (sz : Nat) (h1 : B ≤ W.heap.size) (h2 : W.heap.size = e) : (W.alloc (.cells #[] E)).ownsRow B E sz (.slice (some ⟨e, 0, none⟩) 0 0) 0 [] := by
  subst h2
  exact ⟨by simp, .inr ⟨W.heap.size, 0, #[], rfl, h1, by show (W.heap.push _)[W.heap.size]? = _; simp, Nat.le_refl _, by simp, by simp, by simp⟩⟩
theorem own_al {W : World} {B n sz : Nat} {E : TypeId} {v : Value} {xs : List Value} (h : W.ownsRow B E sz v n xs) (o : Obj) : (W.alloc o).ownsRow B E sz v n xs := h.alloc o
theorem own_dr {W : World} {B n sz : Nat} {E : TypeId} {v : Value} {xs : List Value} (h : W.ownsRow B E sz v n xs) : W.drew.ownsRow B E sz v n xs := h
theorem sl_al {W : World} {ao : Option Addr} {l : List Value} (h : SlV W ao l) (o : Obj) : SlV (W.alloc o) ao l := h.below (below_alloc _ _)
theorem sl_new {W : World} {e : Nat} (c : Array Value) (E : TypeId) (h : c.size ≤ 1000) (h2 : W.heap.size = e) : SlV (W.alloc (.cells c E)) (some ⟨e, 0, none⟩) c.toList := by subst h2; exact slv_made W c E h
theorem blk_dr {W : World} {b : Nat} {T : TypeId} {l : List Value} (h : Blk W b T l) : Blk W.drew b T l := h
theorem sl_gr {W w' : World} {e : Nat} (hg : W.grownBy w' (Value.slice (some ⟨e, 0, none⟩) 0 0).ownBlock) : ∀ (s : Nat) (l : List Value), s ≠ e → SlV W (some ⟨s, 0, none⟩) l → SlV w' (some ⟨s, 0, none⟩) l :=
  fun s l hs h => h.grown hg (fun b off q k => by
    have k1 : e = b := by simpa [Value.ownBlock] using k
    cases q
    exact hs k1.symm)
theorem blk_gr {W w' : World} {B n sz : Nat} {E : TypeId} {v : Value} {xs : List Value} (h : W.ownsRow B E sz v n xs) (hg : W.grownBy w' v.ownBlock) : ∀ (z : Nat) (T : TypeId) (l : List Value), T ≠ E → Blk W z T l → Blk w' z T l :=
  fun z T l hT hz => hz.grown hg (fun q => by
    rcases h.2 with ⟨e, _⟩ | ⟨g, cap, cur, hv, _, hh, _⟩
    · rw [e] at q; cases q
    · rw [hv] at q
      have k1 : z = g := by simpa [Value.ownBlock] using q
      subst k1
      unfold Blk at hz
      rw [hz] at hh
      cases hh
      exact hT rfl)
/-- as step_appsN; behind it stand what is below, and the blocks of other types -/
theorem step_appsB {P : Program} {ops : Array Oper} {o : Oper} {a : Act} {w : World} {K : Act → World → Prop} {Q : Exit → Act → World → Prop} {G : Prop} (hgd : o.guard = none) (s x : Operand) (T : TypeId)
    (ho : o.op = .call { callee := .builtin .append, args := #[s, x], argTypes := #[T, T] })
    (E : TypeId) (i : TypeInfo) (z : Value) (sz bytes : Nat) (ht : P.underlying T = some (.slice E)) (hi : P.info? E = some i) (hz : i.zero = some z) (hsize : i.size = sz) (hby : i.bytes = bytes) (hzs : z.cells.size = sz) (hsz : 0 < sz)
    (w0 : World) (v : Value) (n : Nat) (xs : List Value) (hs : a.eval s = v) (ao : Option Addr) (c m : Nat) (vs : List Value) (hx : a.eval x = .slice ao m c) (hvl : vs.length = m * sz) (hnone : ao = none → c = 0) (h1 : ∀ u ∈ vs, u.oneCell' = true)
    (k : Nat) (hk : n + m = k) (hlen : k ≤ maxLen) (hbytes : k * bytes ≤ 140737488355328) (hB : Below w0.heap.size w0 w) (hown : w.ownsRow w0.heap.size E sz v n xs) (hv : SlV w ao vs)
    (h : ∀ ao' cap' w', w'.ownsRow w0.heap.size E sz (.slice ao' k cap') k (xs ++ vs) → w.grownBy w' v.ownBlock → Below w0.heap.size w0 w' → (∀ (z : Nat) (T : TypeId) (l : List Value), T ≠ E → Blk w z T l → Blk w' z T l) → K (a.put o.dst (.slice ao' k cap')) w') :
    if Region.wanted o (yielded ops a.tmps) = true then Oper.wp P o a w K Q else G :=
  step_appsN hgd s x T ho E i z sz bytes ht hi hz hsize hby hzs hsz w0.heap.size v n xs hs hown ao c m vs hvl hv hnone h1 hx k hk hlen hbytes hB.size
    (fun ao' cap' w' h2 h3 => h ao' cap' w' h2 h3 (hB.grown h3 hB.size (fun q hq => (hown.lt q hq).1)) (blk_gr hown h3))
end Go.Proofs.YtogcnmjipfllaaaDoor
