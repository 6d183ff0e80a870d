/- Small lemmas of mine for walks: a slice that the call itself makes by appending one element at a time. -/
import Derived.WalkKit
import Derived.Maps.AppendAt
namespace Go.Proofs.YtogcnmjipfllaaaDoor
open Go.RowKit

theorem hid {p : Prop} (h : p) : Hid p := h
theorem ret_bool {a b : Bool} (h : a = b) : Ending.returned (.bool a) = .returned (.bool b) := by rw [h]
theorem ret_int {k : IntKind} {a b : Int} (h : a = b) : Ending.returned (.int k a) = .returned (.int k b) := by rw [h]

/-- the value v is a slice that the call made itself (from block B on) and reads as xs; below B nothing has turned since w0 -/
structure Mine (B : Nat) (w0 w : World) (E : TypeId) (v : Value) (xs : List Value) : Prop where
  own : w.ownsRow B E 1 v xs.length xs
  below : Below B w0 w
  base : B ≤ w.heap.size

theorem Mine.start {B : Nat} {w0 w : World} {E : TypeId} (hB : Below B w0 w) (hb : B ≤ w.heap.size) : Mine B w0 w E (.slice none 0 0) [] :=
  ⟨World.ownsRow_nil _ _ _ _, hB, hb⟩

/-- append(s, u), u just boxed in a block of its own: at the operation -/
theorem wpl_app1 {P : Program} {ops : Array Oper} {rest : List Oper} {o : Oper} {a : Act} {Q : Exit → Act → World → Prop} {w : World} (hgd : o.guard = none) (s x : Operand) (T : TypeId)
    (ho : o.op = .call { callee := .builtin .append, args := #[s, x], argTypes := #[T, T] })
    (E : TypeId) (z : Value) (bytes : Nat) (ht : P.underlying T = some (.slice E)) (hI : (P.info? E).map (fun i => (i.zero, i.size, i.bytes)) = some (some z, 1, bytes)) (hzs : z.cells.size = 1)
    (B : Nat) (w0 : World) (v : Value) (xs : List Value) (hm : Mine B w0 w E v xs) (hs : a.eval s = v) (u : Value) (hu : u.oneCell' = true)
    (hx : a.eval x = .slice (some ⟨w.heap.size, 0, none⟩) 1 1) (hlen : xs.length + 1 ≤ maxLen) (hbytes : (xs.length + 1) * bytes ≤ 140737488355328)
    (h : ∀ g cap w', Mine B w0 w' E (.slice (some ⟨g, 0, none⟩) (xs.length + 1) cap) (xs ++ [u]) → w.grownBy w' v.ownBlock → B ≤ g → (v.ownBlock = some g ∨ w.heap.size ≤ g) → wpList P ops Q rest (a.put o.dst (.slice (some ⟨g, 0, none⟩) (xs.length + 1) cap)) w') :
    wpList P ops Q (o :: rest) a (w.alloc (.cells #[u] E)) := by
  obtain ⟨i, hi, hz, hsize, hby⟩ := info_parts hI
  refine wpList_append_own_at (w.alloc (.cells #[u] E)) hgd s x T ho B E i z 1 bytes ht hi hz hsize hby hzs (by decide) v xs.length xs hs (hm.own.alloc _) ⟨w.heap.size, 0, none⟩ 1 1 [u] hx rfl (cell_one_new _ _ _)
    (by intro y hy; simp at hy; subst hy; exact hu) hlen hbytes (by have := hm.base; simp; omega) ?_
  intro v' w' hown hgrow hnil hat
  have hg1 : w.grownBy w' v.ownBlock := World.grownBy.trans (World.grownBy_alloc w _ _) hgrow
  obtain ⟨g, cap, hv, hBg⟩ : ∃ g cap, v' = .slice (some ⟨g, 0, none⟩) (xs.length + 1) cap ∧ B ≤ g := by
    rcases hown.2 with ⟨e, _⟩ | ⟨g, cap, cur, hv, hg, _⟩
    · exact absurd (hnil.1 e).2 (by decide)
    · exact ⟨g, cap, hv, hg⟩
  subst hv
  refine h g cap w' ⟨by simpa using hown, ?_, ?_⟩ hg1 hBg ?_
  · exact (hm.below.alloc hm.base (.cells #[u] E)).grown hgrow (by have := hm.base; simp; omega) (fun k hk => (hm.own.lt k hk).1)
  · have := hgrow.size; have := hm.base; simp at *; omega
  · rcases hat with h | h
    · exact .inl h.symm
    · simp only [Value.ownBlock, Option.some.injEq] at h; right; rw [h]; simp

theorem ownsRow_mono {w : World} {B B' : Nat} {E : TypeId} {n : Nat} {v : Value} {xs : List Value} (h : w.ownsRow B E 1 v n xs) (hB : B' ≤ B) : w.ownsRow B' E 1 v n xs := by
  obtain ⟨h1, h2⟩ := h
  refine ⟨h1, ?_⟩
  rcases h2 with h2 | ⟨g, cap, cur, hv, hg, r⟩
  · exact .inl h2
  · exact .inr ⟨g, cap, cur, hv, Nat.le_trans hB hg, r⟩

/-- the row at its end, as a contract tells it -/
theorem Mine.done {B : Nat} {w0 w : World} {E : TypeId} {v : Value} {xs : List Value} (h : Mine B w0 w E v xs) : w.ownsRow B E 1 v xs.length xs ∧ Below B w0 w := ⟨h.own, h.below⟩


/-! ### a block that holds integers -/
def Blk (w : World) (b : Nat) (T : TypeId) (L : List Value) : Prop := w.heap[b]? = some (.cells L.toArray T (0, 0))

theorem Blk.lt {w : World} {b : Nat} {T : TypeId} {L : List Value} (h : Blk w b T L) : b < w.heap.size := (Array.getElem?_eq_some_iff.1 h).1
theorem Blk.cell {w : World} {b : Nat} {T : TypeId} {L : List Value} (h : Blk w b T L) (i : Nat) : w.cell? ⟨b, i, none⟩ = L[i]? := by
  simp [World.cell?, show w.heap[b]? = _ from h]
theorem Blk.free {w : World} {b : Nat} {T : TypeId} {L : List Value} (h : Blk w b T L) (i : Nat) : w.frozen? ⟨b, i, none⟩ = false := by
  simp [World.frozen?, show w.heap[b]? = _ from h]
theorem Blk.grown {w w' : World} {b : Nat} {T : TypeId} {L : List Value} {row : Option Nat} (h : Blk w b T L) (hg : w.grownBy w' row) (hne : some b ≠ row) : Blk w' b T L :=
  (hg.block b h.lt hne).trans h
theorem Blk.below {w w' : World} {B b : Nat} {T : TypeId} {L : List Value} (h : Blk w b T L) (hB : Below B w w') (hb : b < B) : Blk w' b T L :=
  (hB.block b hb).trans h
theorem Blk.alloc {w : World} {b : Nat} {T : TypeId} {L : List Value} (h : Blk w b T L) (o : Obj) : Blk (w.alloc o) b T L :=
  (Below.heap_alloc w o b h.lt).trans h
theorem Blk.new (w : World) (c : Array Value) (T : TypeId) : Blk (w.alloc (.cells c T)) w.heap.size T c.toList := by
  unfold Blk
  show (w.heap.push _)[w.heap.size]? = _
  simp
theorem Blk.drew {w : World} {b : Nat} {T : TypeId} {L : List Value} (h : Blk w b T L) : Blk w.drew b T L := h
theorem Blk.set {w : World} {b : Nat} {T : TypeId} {L : List Value} (h : Blk w b T L) (i : Nat) (v : Value) : Blk (w.setCell ⟨b, i, none⟩ v) b T (L.set i v) := by
  unfold Blk at *
  simp [World.setCell, Array.getElem?_modify, h]
theorem Blk.other {w : World} {b : Nat} {T : TypeId} {L : List Value} (h : Blk w b T L) (a : Addr) (hne : b ≠ a.block) (v : Value) : Blk (w.setCell a v) b T L :=
  (Below.heap_setCell w a v b hne).trans h

/-- 'var x T' of an addressed local, at the operation -/
theorem wpl_alloc {P : Program} {ops : Array Oper} {rest : List Oper} {o : Oper} {a : Act} {Q : Exit → Act → World → Prop} {w : World} (hgd : o.guard = none) (E : TypeId)
    (ho : o.op = .alloc E) (z : Value) (hI : (P.info? E).map (fun i => i.zero) = some (some z))
    (h : ∀ w1 g, w.heap.size ≤ g → g < w1.heap.size → Blk w1 g E z.cells.toList → w.grownBy w1 none → wpList P ops Q rest (a.put o.dst (.pointer (some ⟨g, 0, none⟩))) w1) :
    wpList P ops Q (o :: rest) a w := by
  obtain ⟨i, hi, hz⟩ := Option.map_eq_some_iff.1 hI
  refine wpList_plain hgd fun K hK => ?_
  have hrun : (Instr.alloc E true (.tuple #[])).run P w = .ok (.pointer (some ⟨w.heap.size, 0, none⟩)) (w.alloc (.cells z.cells E (0, 0))) := by
    unfold Instr.alloc zeroValue typeInfo
    simp [go_sem, hi, hz, newVar, newRow]
  unfold Oper.wp execOp
  simp only [ho, Sem.run_bind, Sem.run_pure, Result.andThen_ok, hrun]
  refine hK _ _ (h _ _ (Nat.le_refl _) (by simp) ?_ (World.grownBy_alloc _ _ _))
  unfold Blk
  show (w.heap.push _)[w.heap.size]? = _; simp

/-- a variable that is boxed at once (a captured parameter), at the operation -/
theorem wpl_box {P : Program} {ops : Array Oper} {rest : List Oper} {o : Oper} {a : Act} {Q : Exit → Act → World → Prop} {w : World} (hgd : o.guard = none) (E : TypeId) (x : Operand)
    (ho : o.op = .box E x) (v : Value) (hx : a.eval x = v)
    (h : ∀ w1 g, w.heap.size ≤ g → g < w1.heap.size → Blk w1 g E v.cells.toList → w.grownBy w1 none → wpList P ops Q rest (a.put o.dst (.pointer (some ⟨g, 0, none⟩))) w1) :
    wpList P ops Q (o :: rest) a w := by
  refine wpList_plain hgd fun K hK => ?_
  have hrun : (Instr.box E v).run P w = .ok (.pointer (some ⟨w.heap.size, 0, none⟩)) (w.alloc (.cells v.cells E (0, 0))) := by
    unfold Instr.box
    simp [go_sem, newVar, newRow]
  unfold Oper.wp execOp
  simp only [ho, Sem.run_bind, Sem.run_pure, Result.andThen_ok, hx, hrun]
  refine hK _ _ (h _ _ (Nat.le_refl _) (by simp) ?_ (World.grownBy_alloc _ _ _))
  unfold Blk
  show (w.heap.push _)[w.heap.size]? = _; simp

theorem madeCells_one (z : Value) (n : Nat) (hz : z.cells = #[z]) : (madeCells z.cells n).toList = List.replicate n z := by
  rw [hz]
  unfold madeCells
  apply List.ext_getElem
  · simp
  · intro i h1 h2; simp [Nat.mod_one]

/-- 'make([]T, n)', a cell an element, at the operation -/
theorem wpl_make {P : Program} {ops : Array Oper} {rest : List Oper} {o : Oper} {a : Act} {Q : Exit → Act → World → Prop} {w : World} (hgd : o.guard = none) (l c : Operand) (T : TypeId)
    (ho : o.op = .makeSlice T l c) (E : TypeId) (z : Value) (bytes : Nat) (ht : P.underlying T = some (.slice E)) (hI : (P.info? E).map (fun i => (i.zero, i.size, i.bytes)) = some (some z, 1, bytes)) (hz1 : z.cells = #[z])
    (L C : Int) (n : Nat) (hl : a.eval l = .int .i64 L) (hc : a.eval c = .int .i64 C) (hL : L = n) (hC : C = n) (hb : bytes * n ≤ 281474976710656) (hn : n ≤ maxLen)
    (h : ∀ w1 g, w.heap.size ≤ g → g < w1.heap.size → Blk w1 g E (List.replicate n z) → w.grownBy w1 none → wpList P ops Q rest (a.put o.dst (.slice (some ⟨g, 0, none⟩) n n)) w1) :
    wpList P ops Q (o :: rest) a w := by
  obtain ⟨i, hi, hz, hsize, hby⟩ := info_parts hI
  refine wpList_make_full w hgd l c T ho w.heap.size E i z 1 ht hi hz hsize .i64 .i64 L C n hl hc hL hC (by rw [hby]; exact hb) hn (Nat.le_refl _) ?_
  intro w' hown hg
  obtain ⟨_, h2⟩ := hown
  rcases h2 with ⟨h3, _⟩ | ⟨g, cap, cur, hv, hle, hh, _, _, h6, h7⟩
  · simp at h3
  · simp only [Value.slice.injEq, Option.some.injEq, Addr.mk.injEq, and_true, true_and] at hv
    obtain ⟨hv1, hv2⟩ := hv
    subst hv1 hv2
    refine h w' _ (Nat.le_refl _) (Array.getElem?_eq_some_iff.1 hh).1 ?_ hg
    unfold Blk
    rw [hh]
    have hcl : cur.toList.length = n := by simpa using h6
    rw [List.take_of_length_le (by omega), Nat.mul_one, madeCells_one z n hz1] at h7
    rw [← h7]

theorem grown_below {w w' : World} {row : Option Nat} (h : w.grownBy w' row) {B : Nat} (hB : B ≤ w.heap.size) (hr : ∀ k, row = some k → B ≤ k) : Below B w w' := (Below.refl B w).grown h hB hr
theorem grownBy_set {w w' : World} {b : Nat} (h : w.grownBy w' (some b)) (i : Nat) (v : Value) : w.grownBy (w'.setCell ⟨b, i, none⟩ v) (some b) :=
  h.trans ⟨rfl, rfl, rfl, by simp [World.setCell], fun k _ hne => Below.heap_setCell _ _ _ _ (by intro e; exact hne (by rw [e]))⟩
theorem grownBy_drew {w w' : World} {r : Option Nat} (h : w.grownBy w' r) : w.grownBy w'.drew r := ⟨h.os, h.tape, h.output, h.size, h.block⟩
theorem grownBy_none {w w' : World} (h : w.grownBy w' none) (r : Option Nat) : w.grownBy w' r := ⟨h.os, h.tape, h.output, h.size, fun k hk _ => h.block k hk (by simp)⟩

/-- a non-empty row of the call's own, as a value and a block -/
theorem Mine.open {B : Nat} {w0 w : World} {E : TypeId} {v : Value} {xs : List Value} (h : Mine B w0 w E v xs) (hne : xs ≠ []) :
    ∃ g cap cur, v = .slice (some ⟨g, 0, none⟩) xs.length cap ∧ B ≤ g ∧ Blk w g E cur ∧ xs.length ≤ cap ∧ cap ≤ maxLen ∧ ∀ i, i < xs.length → cur[i]? = xs[i]? := by
  obtain ⟨_, h2⟩ := h.own
  rcases h2 with ⟨_, h3⟩ | ⟨g, cap, cur, hv, hg, hh, h4, h5, _, h7⟩
  · exact absurd (List.eq_nil_of_length_eq_zero h3) hne
  · refine ⟨g, cap, cur.toList, hv, hg, by unfold Blk; simpa using hh, h4, h5, fun i hi => ?_⟩
    have := congrArg (fun l => l[i]?) h7
    simpa [List.getElem?_take, hi] using this

/-- the first k of n cells hold f, the others what they held -/
def fillTo (f : Nat → Value) (z : Value) (k n : Nat) : List Value := (List.range n).map fun i => if i < k then f i else z
theorem fillTo_zero (f : Nat → Value) (z : Value) (n : Nat) : fillTo f z 0 n = List.replicate n z := by
  unfold fillTo; apply List.ext_getElem <;> simp
theorem fillTo_len (f : Nat → Value) (z : Value) (k n : Nat) : (fillTo f z k n).length = n := by simp [fillTo]
theorem fillTo_get (f : Nat → Value) (z : Value) (k n i : Nat) (h : i < n) : (fillTo f z k n)[i]? = some (if i < k then f i else z) := by
  simp [fillTo, h]
theorem fillTo_set (f : Nat → Value) (z : Value) (k n : Nat) : (fillTo f z k n).set k (f k) = fillTo f z (k + 1) n := by
  apply List.ext_getElem
  · simp [fillTo]
  · intro i h1 h2
    simp only [fillTo, List.length_set, List.length_map, List.length_range] at h1
    rw [List.getElem_set]
    simp only [fillTo, List.getElem_map, List.getElem_range]
    split
    · subst_vars; simp
    · split <;> split <;> first | rfl | omega
theorem fillTo_full (f : Nat → Value) (z : Value) (n : Nat) : fillTo f z n n = (List.range n).map f := by
  unfold fillTo
  apply List.map_congr_left
  intro i hi
  rw [if_pos (List.mem_range.1 hi)]


/-- a contract that leaves the world alone, turned for the kit's quiet walks -/
theorem turned {P : Program} {f : FuncId} {args : Array Value} {w : World} {v : Value} (h : Calls P f args w fun e w' => e = .returned v ∧ w = w') :
    Calls P f args w fun e w'' => e = .returned v ∧ w'' = w := h.mono fun _ _ hh => ⟨hh.1, hh.2.symm⟩



theorem undrew {w w' : World} (h : Below w.drew.heap.size w.drew w') : Below w.heap.size w w' := ⟨h.os, h.tape, h.output, h.size, h.block⟩

theorem unalloc {w w' : World} {o : Obj} (h : Below (w.alloc o).heap.size (w.alloc o) w') : Below w.heap.size w w' :=
  ((Below.refl _ w).alloc (Nat.le_refl _) o).trans (h.mono (by simp))
theorem below_alloc (w : World) (o : Obj) : Below w.heap.size w (w.alloc o) := (Below.refl _ w).alloc (Nat.le_refl _) o
/-- two steps, each of which leaves alone what lay there -/
theorem bthen {a b c : World} (h : Below a.heap.size a b) (k : Below b.heap.size b c) : Below a.heap.size a c := h.trans (k.mono h.size)

/-! ### what a step may have changed, by blocks -/
structure Chg (S : Nat → Prop) (w w' : World) : Prop where
  os : w'.os = w.os
  tape : w'.tape = w.tape
  output : w'.output = w.output
  size : w.heap.size ≤ w'.heap.size
  block : ∀ k, k < w.heap.size → ¬ S k → w'.heap[k]? = w.heap[k]?

theorem Chg.refl (S : Nat → Prop) (w : World) : Chg S w w := ⟨rfl, rfl, rfl, Nat.le_refl _, fun _ _ _ => rfl⟩
theorem Chg.trans {S : Nat → Prop} {a b c : World} (h : Chg S a b) (k : Chg S b c) : Chg S a c :=
  ⟨k.os.trans h.os, k.tape.trans h.tape, k.output.trans h.output, Nat.le_trans h.size k.size, fun i hi hn => (k.block i (Nat.lt_of_lt_of_le hi h.size) hn).trans (h.block i hi hn)⟩
theorem Chg.mono {S S' : Nat → Prop} {a b : World} (h : Chg S a b) (hs : ∀ k, k < a.heap.size → S k → S' k) : Chg S' a b :=
  ⟨h.os, h.tape, h.output, h.size, fun k hk hn => h.block k hk (fun s => hn (hs k hk s))⟩
theorem Chg.set {S : Nat → Prop} {a w : World} (h : Chg S a w) {p : Addr} (hp : S p.block) (v : Value) : Chg S a (w.setCell p v) :=
  h.trans ⟨rfl, rfl, rfl, by simp [World.setCell], fun k _ hn => Below.heap_setCell _ _ _ _ (by intro e; exact hn (by rw [e]; exact hp))⟩
theorem Chg.drew {S : Nat → Prop} {a w : World} (h : Chg S a w) : Chg S a w.drew := ⟨h.os, h.tape, h.output, h.size, h.block⟩
theorem Chg.alloc {S : Nat → Prop} {a w : World} (h : Chg S a w) (o : Obj) : Chg S a (w.alloc o) :=
  h.trans ⟨rfl, rfl, rfl, by simp, fun k hk _ => Below.heap_alloc _ _ _ hk⟩
theorem Chg.grown {S : Nat → Prop} {a w w' : World} {row : Option Nat} (h : Chg S a w) (hg : w.grownBy w' row) (hr : ∀ k, row = some k → S k) : Chg S a w' :=
  h.trans ⟨hg.os, hg.tape, hg.output, hg.size, fun k hk hn => hg.block k hk (fun e => hn (hr k e.symm))⟩
theorem Chg.below {S : Nat → Prop} {a w w' : World} {B : Nat} (h : Chg S a w) (hB : Below B w w') (hs : ∀ k, k < w.heap.size → B ≤ k → S k) : Chg S a w' :=
  h.trans ⟨hB.os, hB.tape, hB.output, hB.size, fun k hk hn => hB.block k (Nat.lt_of_not_le fun hle => hn (hs k hk hle))⟩
theorem Chg.toBelow {S : Nat → Prop} {a w : World} {B : Nat} (h : Chg S a w) (hb : B ≤ a.heap.size) (hs : ∀ k, S k → B ≤ k) : Below B a w :=
  ⟨h.os, h.tape, h.output, h.size, fun k hk => h.block k (by omega) (fun s => by have := hs k s; omega)⟩
theorem Blk.chg {S : Nat → Prop} {w w' : World} {b : Nat} {T : TypeId} {L : List Value} (h : Blk w b T L) (hc : Chg S w w') (hn : ¬ S b) : Blk w' b T L :=
  (hc.block b h.lt hn).trans h
theorem ownsRow_chg {S : Nat → Prop} {w w' : World} {B : Nat} {E : TypeId} {n : Nat} {v : Value} {xs : List Value} (h : w.ownsRow B E 1 v n xs) (hc : Chg S w w') (hn : ∀ k, v.ownBlock = some k → ¬ S k) : w'.ownsRow B E 1 v n xs := by
  obtain ⟨h1, h2⟩ := h
  refine ⟨h1, ?_⟩
  rcases h2 with h2 | ⟨g, cap, cur, hv, hg, hh, r⟩
  · exact .inl h2
  · exact .inr ⟨g, cap, cur, hv, hg, (hc.block g (Array.getElem?_eq_some_iff.1 hh).1 (hn g (by rw [hv]; rfl))).trans hh, r⟩


/-- 'T{}' of an array type, at the operation -/
theorem wpl_build0 {P : Program} {ops : Array Oper} {rest : List Oper} {o : Oper} {a : Act} {Q : Exit → Act → World → Prop} {w : World} (hgd : o.guard = none) (T : TypeId)
    (ho : o.op = .build T #[]) (n : Nat) (E : TypeId) (ht : P.underlying T = some (.array n E)) (hE : (P.info? E).isSome) (cs : Array Value) (hI : (P.info? T).map (fun i => i.zero) = some (some (.agg cs)))
    (h : wpList P ops Q rest (a.put o.dst (.agg cs)) w) : wpList P ops Q (o :: rest) a w := by
  obtain ⟨i, hi, hz⟩ := Option.map_eq_some_iff.1 hI
  obtain ⟨ie, hie⟩ := Option.isSome_iff_exists.1 hE
  refine wpList_plain hgd fun K hK => ?_
  have hrun : (Instr.build T #[]).run P w = .ok (.agg cs) w := by
    unfold Instr.build zeroValue sizeOf typeInfo underlying
    simp [go_sem, hi, hz, ht, hie, Instr.fill, Value.cells]
  unfold Oper.wp execOp
  simp only [ho, Sem.run_bind, Sem.run_pure, Result.andThen_ok, List.map_toArray, List.map_nil, hrun]
  exact hK _ _ h

end Go.Proofs.YtogcnmjipfllaaaDoor
