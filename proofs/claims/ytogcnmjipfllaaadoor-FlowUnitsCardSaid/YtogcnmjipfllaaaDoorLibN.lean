/- A slice of structs (sz cells each) that the call itself makes by appending one element at a time. -/
import Derived.Test.YtogcnmjipfllaaaDoorLib
namespace Go.Proofs.YtogcnmjipfllaaaDoor
open Go.RowKit

structure MineN (sz : Nat) (B : Nat) (w0 w : World) (E : TypeId) (v : Value) (n : Nat) (xs : List Value) : Prop where
  own : w.ownsRow B E sz v n xs
  below : Below B w0 w
  base : B ≤ w.heap.size

theorem MineN.start {sz B : Nat} {w0 w : World} {E : TypeId} (hB : Below B w0 w) (hb : B ≤ w.heap.size) : MineN sz B w0 w E (.slice none 0 0) 0 [] :=
  ⟨World.ownsRow_nil _ _ _ _, hB, hb⟩

theorem cells_new (w : World) (us : List Value) (E : TypeId) : ∀ j u, us[j]? = some u → (w.alloc (.cells us.toArray E)).cell? ((⟨w.heap.size, 0, none⟩ : Addr).add j) = some u := by
  intro j u hj
  have e : (⟨w.heap.size, 0, none⟩ : Addr).add j = ⟨w.heap.size, j, none⟩ := by
    unfold Addr.add; split
    · subst_vars; rfl
    · simp
  rw [e, World.cell?_alloc_at _ _ _ _ rfl]
  simpa using hj

/-- append(s, u), u a struct just laid in a block of its own: at the operation -/
theorem wpl_appN {P : Program} {ops : Array Oper} {rest : List Oper} {o : Oper} {a : Act} {Q : Exit → Act → World → Prop} {w : World} (hgd : o.guard = none) (s x : Operand) (T : TypeId)
    (ho : o.op = .call { callee := .builtin .append, args := #[s, x], argTypes := #[T, T] })
    (E : TypeId) (z : Value) (sz bytes : Nat) (ht : P.underlying T = some (.slice E)) (hI : (P.info? E).map (fun i => (i.zero, i.size, i.bytes)) = some (some z, sz, bytes)) (hzs : z.cells.size = sz) (hsz : 0 < sz)
    (B : Nat) (w0 : World) (v : Value) (n : Nat) (xs : List Value) (hm : MineN sz B w0 w E v n xs) (hs : a.eval s = v) (us : Array Value) (hl : us.size = sz) (hu : ∀ u ∈ us.toList, u.oneCell' = true)
    (hx : a.eval x = .slice (some ⟨w.heap.size, 0, none⟩) 1 1) (hlen : n + 1 ≤ maxLen) (hbytes : (n + 1) * bytes ≤ 140737488355328)
    (h : ∀ g cap w', MineN sz B w0 w' E (.slice (some ⟨g, 0, none⟩) (n + 1) cap) (n + 1) (xs ++ us.toList) → w.grownBy w' v.ownBlock → B ≤ g → (v.ownBlock = some g ∨ w.heap.size ≤ g) → wpList P ops Q rest (a.put o.dst (.slice (some ⟨g, 0, none⟩) (n + 1) cap)) w') :
    wpList P ops Q (o :: rest) a (w.alloc (.cells us E)) := by
  obtain ⟨i, hi, hz, hsize, hby⟩ := info_parts hI
  refine wpList_append_own_at (w.alloc (.cells us E)) hgd s x T ho B E i z sz bytes ht hi hz hsize hby hzs hsz v n xs hs (hm.own.alloc _) ⟨w.heap.size, 0, none⟩ 1 1 us.toList hx (by simpa using hl) (cells_new w us.toList E)
    hu hlen hbytes (by have := hm.base; simp; omega) ?_
  intro v' w' hown hgrow hnil hat
  have hg1 : w.grownBy w' v.ownBlock := World.grownBy.trans (World.grownBy_alloc w _ _) hgrow
  obtain ⟨g, cap, hv, hBg⟩ : ∃ g cap, v' = .slice (some ⟨g, 0, none⟩) (n + 1) cap ∧ B ≤ g := by
    rcases hown.2 with ⟨e, _⟩ | ⟨g, cap, cur, hv, hg, _⟩
    · exact absurd (hnil.1 e).2 (by decide)
    · exact ⟨g, cap, hv, hg⟩
  subst hv
  refine h g cap w' ⟨hown, ?_, ?_⟩ hg1 hBg ?_
  · exact (hm.below.alloc hm.base (.cells us E)).grown hgrow (by have := hm.base; simp; omega) (fun k hk => (hm.own.lt k hk).1)
  · have := hgrow.size; have := hm.base; simp at *; omega
  · rcases hat with h | h
    · exact .inl h.symm
    · simp only [Value.ownBlock, Option.some.injEq] at h; right; rw [h]; simp

theorem ownsRow_chgN {S : Nat → Prop} {w w' : World} {B sz : Nat} {E : TypeId} {n : Nat} {v : Value} {xs : List Value} (h : w.ownsRow B E sz v n xs) (hc : Chg S w w') (hn : ∀ k, v.ownBlock = some k → ¬ S k) : w'.ownsRow B E sz v n xs := by
  obtain ⟨h1, h2⟩ := h
  refine ⟨h1, ?_⟩
  rcases h2 with h2 | ⟨g, cap, cur, hv, hg, hh, r⟩
  · exact .inl h2
  · exact .inr ⟨g, cap, cur, hv, hg, (hc.block g (Array.getElem?_eq_some_iff.1 hh).1 (hn g (by rw [hv]; rfl))).trans hh, r⟩
theorem ownsRow_monoN {w : World} {B B' sz : Nat} {E : TypeId} {n : Nat} {v : Value} {xs : List Value} (h : w.ownsRow B E sz v n xs) (hB : B' ≤ B) : w.ownsRow B' E sz v n xs := by
  obtain ⟨h1, h2⟩ := h
  refine ⟨h1, ?_⟩
  rcases h2 with h2 | ⟨g, cap, cur, hv, hg, r⟩
  · exact .inl h2
  · exact .inr ⟨g, cap, cur, hv, Nat.le_trans hB hg, r⟩
end Go.Proofs.YtogcnmjipfllaaaDoor
