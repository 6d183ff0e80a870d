/- flow: the parser's flow: what the region that appends a step and its name does -/
import Derived.Test.YtogcnmjipfllaaaDoorFloFlw
namespace Go.Proofs.YtogcnmjipfllaaaDoor
open Go.RowKit

/-- the state within the region: the box still holds the old rows -/
structure M14 (w0 u : World) (pb bs : Nat) (p : PT) (ts : List Tok) (s : Stp) (nvC : Value) (NC : List ByteArray) (svC : Value) (SC : List Stp) : Prop where
  box : PB u pb p ts
  sbx : Blk u bs 32 s.cells
  names : u.ownsRow w0.heap.size 9 1 nvC NC.length (strV NC)
  steps : u.ownsRow w0.heap.size 32 4 svC SC.length (stpsCells SC)
  chg : Chg (fun b => b = pb) w0 u
  lt : pb < w0.heap.size
  ltn : NC.length ≤ 41
  lts : SC.length ≤ 41
def S14 (pb bs : Nat) (nv sv : Value) (s : Stp) (u : World) : Prop :=
  u.cell? ⟨pb, 5, none⟩ = some sv ∧ u.cell? ⟨pb, 2, none⟩ = some nv ∧ u.cell? ⟨bs, 0, none⟩ = some (.int .i64 s.op) ∧ u.cell? ⟨bs, 1, none⟩ = some (.int .i64 s.a) ∧ u.cell? ⟨bs, 2, none⟩ = some (.int .i64 s.b) ∧ u.cell? ⟨bs, 3, none⟩ = some (.int .i64 s.n)
theorem M14.held {w0 u : World} {pb bs : Nat} {p : PT} {ts : List Tok} {s : Stp} {nvC : Value} {NC : List ByteArray} {svC : Value} {SC : List Stp} (h : M14 w0 u pb bs p ts s nvC NC svC SC) : S14 pb bs p.nv p.sv s u := by
  obtain ⟨ao, cap, hb⟩ := h.box.blk
  exact ⟨hb.cell 5, hb.cell 2, h.sbx.cell 0, h.sbx.cell 1, h.sbx.cell 2, h.sbx.cell 3⟩
theorem M14.alloc {w0 u : World} {pb bs : Nat} {p : PT} {ts : List Tok} {s : Stp} {nvC : Value} {NC : List ByteArray} {svC : Value} {SC : List Stp} (h : M14 w0 u pb bs p ts s nvC NC svC SC) (o : Obj) : M14 w0 (u.alloc o) pb bs p ts s nvC NC svC SC :=
  ⟨h.box.below (below_alloc _ _), h.sbx.alloc o, h.names.alloc o, h.steps.alloc o, h.chg.alloc o, h.lt, h.ltn, h.lts⟩
theorem M14.drew {w0 u : World} {pb bs : Nat} {p : PT} {ts : List Tok} {s : Stp} {nvC : Value} {NC : List ByteArray} {svC : Value} {SC : List Stp} (h : M14 w0 u pb bs p ts s nvC NC svC SC) : M14 w0 u.drew pb bs p ts s nvC NC svC SC :=
  ⟨h.box.below (Below.refl _ _).drew, h.sbx.drew, own_dr h.names, own_dr h.steps, h.chg.drew, h.lt, h.ltn, h.lts⟩
theorem PB.grown {w w' : World} {pb : Nat} {p : PT} {ts : List Tok} {row : Option Nat} (h : PB w pb p ts) (hg : w.grownBy w' row) (hr : ∀ k, row = some k → pb < k) : PB w' pb p ts :=
  h.chg (S := fun k => row = some k) ((Chg.refl _ w).grown hg (fun _ h => h)) (fun q hq h => by have := hr q h; omega)
theorem Tryd.stepInfo : (Tryd.prog.info? 32).map (fun i => (i.zero, i.size, i.bytes)) = some (some (.agg #[.int .i64 0, .int .i64 0, .int .i64 0, .int .i64 0]), 4, 32) := by kernel_rfl
theorem Tryd.strInfo : (Tryd.prog.info? 9).map (fun i => (i.zero, i.size, i.bytes)) = some (some (.string ByteArray.empty), 1, 16) := by kernel_rfl
theorem stpsCells_snoc (S : List Stp) (s : Stp) : stpsCells (S ++ [s]) = stpsCells S ++ s.cells := by simp [stpsCells]
theorem strV_snoc (N : List ByteArray) (x : ByteArray) : strV (N ++ [x]) = strV N ++ [.string x] := by simp [strV]
theorem app_steps {ops : Array Oper} {i : Nat} {o : Oper} {a : Act} {K : Act → World → Prop} {Q : Exit → Act → World → Prop} {w0 u : World} {pb bs e8 : Nat} {p : PT} {ts : List Tok} {s : Stp} {nvC : Value} {NC : List ByteArray} {svC : Value} {SC : List Stp}
    (hn : ops[i]? = some o) (hgd : o.guard = none) (x y : Operand) (ho : o.op = .call { callee := .builtin .append, args := #[x, y], argTypes := #[22, 22] })
    (hs : a.eval x = svC) (hx : a.eval y = .slice (some ⟨e8, 0, none⟩) 1 1) (hm : M14 w0 u pb bs p ts s nvC NC svC SC) (hl : Blk u e8 32 s.cells) (hlen : SC.length ≤ 40) (hne : ∀ k, svC.ownBlock = some k → k ≠ bs)
    (h : ∀ ao' cap' u', M14 w0 u' pb bs p ts s nvC NC (.slice ao' (SC.length + 1) cap') (SC ++ [s]) → (∀ z T l, T ≠ 32 → Blk u z T l → Blk u' z T l) → K (a.put o.dst (.slice ao' (SC.length + 1) cap')) u') : wpOp Tryd.prog ops Q i K a u := by
  obtain ⟨i9, hi9, hz9, hs9, hb9⟩ := info_parts Tryd.stepInfo
  have hbase : w0.heap.size ≤ u.heap.size := hm.chg.size
  refine wpOp_if (G := True) hn hgd (step_appsN (by exact hgd) x y 22 ho 32 i9 _ 4 32 Tryd.underlying22 hi9 hz9 hs9 hb9 (by decide) (by decide) w0.heap.size svC SC.length (stpsCells SC) hs hm.steps (some ⟨e8, 0, none⟩) 1 1 s.cells (by rfl)
    ⟨by simp [Stp.cells, maxLen], fun j v hj => ⟨e8, 0, rfl, hl.lt, by rw [hl.cell, Nat.zero_add]; exact hj⟩⟩ (by simp) (by simp [Stp.cells, Value.oneCell']) hx (SC.length + 1) rfl (by unfold maxLen; omega) (by omega) hbase ?_)
  intro ao' cap' u' h2 hg
  refine h ao' cap' u' ⟨hm.box.grown hg (fun k hk => by have := (hm.steps.lt k hk).1; have := hm.lt; omega), hm.sbx.grown hg (fun q => hne _ q.symm rfl), ?_, ?_, ?_, hm.lt, hm.ltn, by simp; omega⟩ (blk_gr hm.steps hg)
  · exact ownsRow_grown hm.names hg (own_apart hm.names hm.steps (by decide))
  · rw [stpsCells_snoc, List.length_append]; exact h2
  · exact Chg.ofNew (((hm.chg.mono (fun q _ h => .inl h)).grown hg (fun k hk => .inr (hm.steps.lt k hk).1)))
theorem app_names {ops : Array Oper} {i : Nat} {o : Oper} {a : Act} {K : Act → World → Prop} {Q : Exit → Act → World → Prop} {w0 u : World} {pb bs e8 : Nat} {p : PT} {ts : List Tok} {s : Stp} {nvC : Value} {NC : List ByteArray} {svC : Value} {SC : List Stp} {xs : ByteArray}
    (hn : ops[i]? = some o) (hgd : o.guard = none) (x y : Operand) (ho : o.op = .call { callee := .builtin .append, args := #[x, y], argTypes := #[68, 68] })
    (hs : a.eval x = nvC) (hx : a.eval y = .slice (some ⟨e8, 0, none⟩) 1 1) (hm : M14 w0 u pb bs p ts s nvC NC svC SC) (hl : Blk u e8 9 [.string xs]) (hlen : NC.length ≤ 40)
    (h : ∀ ao' cap' u', M14 w0 u' pb bs p ts s (.slice ao' (NC.length + 1) cap') (NC ++ [xs]) svC SC → (∀ z T l, T ≠ 9 → Blk u z T l → Blk u' z T l) → K (a.put o.dst (.slice ao' (NC.length + 1) cap')) u') : wpOp Tryd.prog ops Q i K a u := by
  obtain ⟨i9, hi9, hz9, hs9, hb9⟩ := info_parts Tryd.strInfo
  have hbase : w0.heap.size ≤ u.heap.size := hm.chg.size
  refine wpOp_if (G := True) hn hgd (step_appsN (by exact hgd) x y 68 ho 9 i9 _ 1 16 Tryd.underlying68 hi9 hz9 hs9 hb9 (by decide) (by decide) w0.heap.size nvC NC.length (strV NC) hs hm.names (some ⟨e8, 0, none⟩) 1 1 [.string xs] (by rfl)
    ⟨by simp [maxLen], fun j v hj => ⟨e8, 0, rfl, hl.lt, by rw [hl.cell, Nat.zero_add]; exact hj⟩⟩ (by simp) (by simp [Value.oneCell']) hx (NC.length + 1) rfl (by unfold maxLen; omega) (by omega) hbase ?_)
  intro ao' cap' u' h2 hg
  refine h ao' cap' u' ⟨hm.box.grown hg (fun k hk => by have := (hm.names.lt k hk).1; have := hm.lt; omega), ?_, ?_, ?_, ?_, hm.lt, by simp; omega, hm.lts⟩ (blk_gr hm.names hg)
  · exact blk_gr hm.names hg _ _ _ (by decide) hm.sbx
  · rw [strV_snoc, List.length_append]; exact h2
  · exact ownsRow_grown hm.steps hg (own_apart hm.steps hm.names (by decide))
  · exact Chg.ofNew (((hm.chg.mono (fun q _ h => .inl h)).grown hg (fun k hk => .inr (hm.names.lt k hk).1)))
/-- where the region ends: the rows in the box -/
theorem M14.fin {w0 u : World} {pb bs : Nat} {p : PT} {ts : List Tok} {s : Stp} {nvC : Value} {NC : List ByteArray} {svC : Value} {SC : List Stp} (h : M14 w0 u pb bs p ts s nvC NC svC SC) (hl : NC.length = SC.length) (h40 : NC.length ≤ 40) :
    FL w0 ((u.setCell ⟨pb, 5, none⟩ svC).setCell ⟨pb, 2, none⟩ nvC) pb ⟨p.en, nvC, p.name, p.ver, svC⟩ NC SC ts := by
  have hlt := h.lt
  have hC : Chg (fun b => b = pb) u ((u.setCell ⟨pb, 5, none⟩ svC).setCell ⟨pb, 2, none⟩ nvC) := ((Chg.refl (fun b => b = pb) u).set (p := ⟨pb, 5, none⟩) rfl _).set (p := ⟨pb, 2, none⟩) rfl _
  exact ⟨h.box.upd (hC.mono (fun _ _ q => .inl q)) (fun ao cap q => (q.set 5 _).set 2 _), ownsRow_chgN h.names hC (fun k hk => by have := (h.names.lt k hk).1; omega), ownsRow_chgN h.steps hC (fun k hk => by have := (h.steps.lt k hk).1; omega), h.chg.trans hC, hl, h40, hlt⟩
end Go.Proofs.YtogcnmjipfllaaaDoor
