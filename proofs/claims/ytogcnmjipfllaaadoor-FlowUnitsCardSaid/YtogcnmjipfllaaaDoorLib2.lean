/- Slices of values that are only read; what a law's arguments give the walk. -/
import Derived.Test.YtogcnmjipfllaaaDoorLib
namespace Go.Proofs.YtogcnmjipfllaaaDoor
open Go.RowKit

theorem u8_bd {a : Int} (h : (Lit.int .u8 a).wf = true) : 0 ≤ a ∧ a ≤ 255 := by
  simpa [Lit.wf, IntKind.min, IntKind.max, IntKind.signed, IntKind.bits] using h
theorem i64_bd {a : Int} (h : (Lit.int .i64 a).wf = true) : -9223372036854775808 ≤ a ∧ a ≤ 9223372036854775807 := by
  simpa [Lit.wf, IntKind.min, IntKind.max, IntKind.signed, IntKind.bits] using h

/-- a slice whose cells hold these values -/
structure SlV (w : World) (ao : Option Addr) (vs : List Value) : Prop where
  len : vs.length ≤ maxLen
  cell : ∀ i x, vs[i]? = some x → ∃ b off, ao = some ⟨b, off, none⟩ ∧ b < w.heap.size ∧ w.cell? ⟨b, off + i, none⟩ = some x

theorem SlV.below {w w' : World} {ao : Option Addr} {l : List Value} (h : SlV w ao l) (hB : Below w.heap.size w w') : SlV w' ao l :=
  ⟨h.len, fun i x hi => by
    obtain ⟨b, off, e, hb, hx⟩ := h.cell i x hi
    exact ⟨b, off, e, Nat.lt_of_lt_of_le hb hB.size, by rw [← hx]; exact hB.cell hb⟩⟩

/-- an argument that is a slice of integers: nil, or a row of 'cap' cells -/
def IsRow (k : IntKind) (w : World) (a : Option Addr) (len cap : Nat) (zs : List Int) : Prop :=
  (a = none ∧ len = 0 ∧ cap = 0 ∧ zs = []) ∨
  ∃ x, a = some x ∧ len ≤ cap ∧ cap ≤ maxLen ∧ zs.length = cap ∧ (∀ i, i < zs.length → w.cell? (x.add i) = some (.int k (zs.getD i 0))) ∧ ∀ n ∈ zs, (Lit.int k n).wf = true

theorem addr_add (b off i : Nat) : (⟨b, off, none⟩ : Addr).add i = ⟨b, off + i, none⟩ := by
  unfold Addr.add
  split
  · subst_vars; rfl
  · rfl

theorem IsRow.sl {k : IntKind} {w : World} {a : Option Addr} {len cap : Nat} {zs : List Int} (h : IsRow k w a len cap zs) :
    ∃ l : List Int, l.length = len ∧ SlV w a (l.map (Value.int k)) ∧ (∀ n ∈ l, (Lit.int k n).wf = true) ∧ len ≤ cap := by
  rcases h with ⟨rfl, rfl, rfl, rfl⟩ | ⟨x, rfl, hl, hm, hz, hc, hw⟩
  · exact ⟨[], rfl, ⟨by simp, by simp⟩, by simp, by simp⟩
  · refine ⟨zs.take len, by simp; omega, ⟨by simp; omega, fun i v hi => ?_⟩, fun n hn => hw n (List.mem_of_mem_take hn), hl⟩
    have hil : i < (zs.take len).length := by
      have := (List.getElem?_eq_some_iff.1 hi).1
      simpa using this
    have hil' : i < zs.length := by simp at hil; omega
    have h0 := hc i hil'
    obtain ⟨b, off, spot⟩ := x
    have hc0 := hc 0 (by omega)
    have hs : spot = none := by
      have e0 : (⟨b, off, spot⟩ : Addr).add 0 = ⟨b, off, spot⟩ := rfl
      rw [e0] at hc0
      simpa using World.cell?_spot hc0
    subst hs
    rw [addr_add] at h0
    refine ⟨b, off, rfl, World.block_lt_of_cell? w _ h0, ?_⟩
    rw [h0]
    have : (zs.take len)[i]? = some (zs.getD i 0) := by
      rw [List.getElem?_take, if_pos (by simp at hil; omega), List.getD, List.getElem?_eq_getElem hil']; rfl
    simp only [List.getElem?_map, this, Option.map_some] at hi
    exact hi

theorem Mine.shape {B : Nat} {w0 w : World} {E : TypeId} {v : Value} {xs : List Value} (h : Mine B w0 w E v xs) : ∃ ao cap, v = .slice ao xs.length cap ∧ (∀ k, v.ownBlock = some k → B ≤ k ∧ k < w.heap.size) := by
  rcases h.own.2 with ⟨e, h3⟩ | ⟨g, cap, cur, hv, hg, _⟩
  · refine ⟨none, 0, by rw [e, h3], fun k hk => h.own.lt k hk⟩
  · exact ⟨_, cap, hv, fun k hk => h.own.lt k hk⟩

/-- append(s, x...): s the call's own, x any slice that can be read -/
theorem wpl_apps {P : Program} {ops : Array Oper} {rest : List Oper} {o : Oper} {a : Act} {Q : Exit → Act → World → Prop} {w : World} (hgd : o.guard = none) (s x : Operand) (T : TypeId)
    (ho : o.op = .call { callee := .builtin .append, args := #[s, x], argTypes := #[T, T] })
    (E : TypeId) (z : Value) (bytes : Nat) (ht : P.underlying T = some (.slice E)) (hI : (P.info? E).map (fun i => (i.zero, i.size, i.bytes)) = some (some z, 1, bytes)) (hzs : z.cells.size = 1)
    (B : Nat) (w0 : World) (v : Value) (xs : List Value) (hm : Mine B w0 w E v xs) (hs : a.eval s = v) (ao : Option Addr) (c : Nat) (vs : List Value) (n : Nat) (hn : vs.length = n) (hv : SlV w ao vs) (hnone : ao = none → c = 0) (h1 : ∀ u ∈ vs, u.oneCell' = true)
    (hx : a.eval x = .slice ao n c) (k : Nat) (hk : xs.length + n = k) (hlen : k ≤ maxLen) (hbytes : k * bytes ≤ 140737488355328)
    (h : ∀ ao' cap' w', Mine B w0 w' E (.slice ao' k cap') (xs ++ vs) → w.grownBy w' v.ownBlock → wpList P ops Q rest (a.put o.dst (.slice ao' k cap')) w') :
    wpList P ops Q (o :: rest) a w := by
  subst hn hk
  obtain ⟨i, hi, hz, hsize, hby⟩ := info_parts hI
  cases ao with
  | none =>
    have hvs : vs = [] := by
      cases vs with
      | nil => rfl
      | cons u vs => obtain ⟨_, _, e, _⟩ := hv.cell 0 u rfl; cases e
    subst hvs
    have hc := hnone rfl
    subst hc
    refine wpList_plain hgd fun K hK => ?_
    have hrun := run_append_owned_none (P := P) w B T o.type E i 1 ht hi _ xs.length xs hm.own
    unfold Oper.wp
    simp only [List.length_nil] at hx
    simp only [execOp, ho, resolve, invoke, builtin, Sem.run_bind, Sem.run_pure, Result.andThen_ok, List.map_toArray, List.map_cons, List.map_nil, hs, hx, hrun]
    obtain ⟨ao', cap', e, _⟩ := hm.shape
    have hm2 := hm
    rw [e] at hm2
    have hk := h ao' cap' w (by simpa using hm2) (World.grownBy.refl _ _)
    rw [e]
    exact hK _ _ (by simpa using hk)
  | some ad =>
    refine wpList_append_own_at w hgd s x T ho B E i z 1 bytes ht hi hz hsize hby hzs (by decide) v xs.length xs hs hm.own ad vs.length c vs hx (by simp) ?_ h1 hlen hbytes hm.base ?_
    · intro j u hj
      obtain ⟨b, off, e, _, hcx⟩ := hv.cell j u hj
      obtain rfl := Option.some.inj e
      rw [addr_add]; exact hcx
    · intro v' w' hown hgrow hnil _
      have hm' : Mine B w0 w' E v' (xs ++ vs) := ⟨by simpa using hown, hm.below.grown hgrow hm.base (fun k hk => (hm.own.lt k hk).1), by have := hgrow.size; have := hm.base; omega⟩
      obtain ⟨ao', cap', e, _⟩ := hm'.shape
      subst e
      have := h ao' cap' w' (by simpa using hm') hgrow
      simpa using this

theorem ints_one (k : IntKind) (l : List Int) : ∀ u ∈ l.map (Value.int k), u.oneCell' = true := ints_oneCell k l

/-- '[]T{}' -/
theorem Mine.empty {B : Nat} {w0 w : World} {E : TypeId} (hB : Below B w0 w) (hb : B ≤ w.heap.size) : Mine B w0 (w.alloc (.cells #[] E)) E (.slice (some ⟨w.heap.size, 0, none⟩) 0 0) [] :=
  ⟨⟨by simp, .inr ⟨w.heap.size, 0, #[], rfl, hb, by show (w.heap.push _)[w.heap.size]? = _; simp, Nat.le_refl _, by simp, by simp, by simp⟩⟩, hB.alloc hb _, by simp; omega⟩
theorem Mine.slv {B : Nat} {w0 w : World} {E : TypeId} {v : Value} {xs : List Value} (h : Mine B w0 w E v xs) : ∃ ao cap, v = .slice ao xs.length cap ∧ SlV w ao xs ∧ (∀ b off, ao = some ⟨b, off, none⟩ → B ≤ b) := by
  by_cases hl : xs = []
  · subst hl
    rcases h.own.2 with ⟨e, _⟩ | ⟨g, cap, cur, hv, hg, _⟩
    · exact ⟨none, 0, e, ⟨by simp, by simp⟩, fun _ _ h => by cases h⟩
    · exact ⟨_, cap, hv, ⟨by simp, by simp⟩, fun _ _ h => by cases h; exact hg⟩
  · obtain ⟨g, cap, cur, hv, hg, hb, hc1, hc2, hrd⟩ := h.open hl
    refine ⟨some ⟨g, 0, none⟩, cap, hv, ⟨Nat.le_trans hc1 hc2, fun i x hi => ⟨g, 0, rfl, hb.lt, ?_⟩⟩, fun _ _ h => by cases h; exact hg⟩
    have hlt : i < xs.length := (List.getElem?_eq_some_iff.1 hi).1
    rw [hb.cell, Nat.zero_add, hrd i hlt, hi]
theorem SlV.chg {S : Nat → Prop} {w w' : World} {ao : Option Addr} {l : List Value} (h : SlV w ao l) (hc : Chg S w w') (hs : ∀ b off, ao = some ⟨b, off, none⟩ → b < w.heap.size → ¬ S b) : SlV w' ao l :=
  ⟨h.len, fun i x hi => by
    obtain ⟨b, off, e, hb, hx⟩ := h.cell i x hi
    exact ⟨b, off, e, Nat.lt_of_lt_of_le hb hc.size, by rw [← hx]; exact World.cell?_of_block (w := w) (hc.block b hb (hs b off e hb))⟩⟩

end Go.Proofs.YtogcnmjipfllaaaDoor
