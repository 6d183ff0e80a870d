/- A queue of the call's own: a slice that is appended to and cut in front ('q = q[1:]'). -/
import Derived.Test.YtgkgpfennlkcnaaDoorLib2
import Derived.ArgAppend
namespace Go.Proofs.YtgkgpfennlkcnaaDoor
open Go.RowKit

/-- the value is nil, or lies somewhere in a block of the call's own and reads as xs -/
def Que (w : World) (B : Nat) (E : TypeId) (v : Value) (xs : List Value) : Prop :=
  (v = .slice none 0 0 ∧ xs = []) ∨ ∃ (g off cap : Nat) (cur : List Value), v = .slice (some ⟨g, off, none⟩) xs.length cap ∧ B ≤ g ∧ Blk w g E cur ∧ xs.length ≤ cap ∧ off + cap ≤ cur.length ∧ cap ≤ maxLen ∧ (cur.drop off).take xs.length = xs
theorem Que.nil (w : World) (B : Nat) (E : TypeId) : Que w B E (.slice none 0 0) [] := .inl ⟨rfl, rfl⟩
theorem Que.shape {w : World} {B : Nat} {E : TypeId} {v : Value} {xs : List Value} (h : Que w B E v xs) : ∃ ao cap, v = .slice ao xs.length cap := by
  rcases h with ⟨rfl, rfl⟩ | ⟨g, off, cap, cur, rfl, _⟩
  · exact ⟨none, 0, rfl⟩
  · exact ⟨_, cap, rfl⟩
theorem Que.lt {w : World} {B : Nat} {E : TypeId} {v : Value} {xs : List Value} (h : Que w B E v xs) : ∀ k, v.ownBlock = some k → B ≤ k ∧ k < w.heap.size := by
  intro k hk
  rcases h with ⟨rfl, _⟩ | ⟨g, off, cap, cur, rfl, h1, h2, _⟩
  · cases hk
  · simp only [Value.ownBlock, Option.some.injEq] at hk; subst hk; exact ⟨h1, h2.lt⟩
theorem Que.chg {S : Nat → Prop} {w w' : World} {B : Nat} {E : TypeId} {v : Value} {xs : List Value} (h : Que w B E v xs) (hc : Chg S w w') (hn : ∀ k, v.ownBlock = some k → ¬ S k) : Que w' B E v xs := by
  rcases h with h | ⟨g, off, cap, cur, rfl, h1, h2, h3⟩
  · exact .inl h
  · exact .inr ⟨g, off, cap, cur, rfl, h1, h2.chg hc (hn g rfl), h3⟩
theorem Que.below {w w' : World} {B : Nat} {E : TypeId} {v : Value} {xs : List Value} (h : Que w B E v xs) (hB : Below w.heap.size w w') : Que w' B E v xs :=
  h.chg ((Chg.refl (fun _ => False) w).below hB (fun k a b => by omega)) (fun _ _ q => q)
theorem Que.ofRow {w : World} {B : Nat} {E : TypeId} {v : Value} {xs : List Value} (h : w.ownsRow B E 1 v xs.length xs) : Que w B E v xs := by
  rcases h.2 with ⟨e, h3⟩ | ⟨g, cap, cur, hv, hg, hh, h4, h5, h6, h7⟩
  · exact .inl ⟨e, List.eq_nil_of_length_eq_zero h3⟩
  · refine .inr ⟨g, 0, cap, cur.toList, hv, hg, by unfold Blk; simpa using hh, h4, ?_, h5, by rw [List.drop_zero]; simpa using h7⟩
    have : cur.size = cap * 1 := h6
    simp; omega
/-- the shape of a queue with something in it -/
theorem Que.front {w : World} {B : Nat} {E : TypeId} {v : Value} {x : Value} {xs : List Value} (h : Que w B E v (x :: xs)) :
    ∃ g off cap, v = .slice (some ⟨g, off, none⟩) (xs.length + 1) cap ∧ B ≤ g ∧ g < w.heap.size ∧ xs.length + 1 ≤ cap ∧ cap ≤ maxLen ∧ w.cell? ⟨g, off, none⟩ = some x ∧
      Que w B E (.slice (some ⟨g, if 1 = cap then off else off + 1, none⟩) xs.length (cap - 1)) xs := by
  rcases h with ⟨_, h⟩ | ⟨g, off, cap, cur, rfl, h1, h2, h3, h4, h5, h6⟩
  · cases h
  · simp only [List.length_cons] at h3 h6
    have hx : cur[off]? = some x := by
      have := congrArg (·[0]?) h6
      simpa [List.getElem?_take, List.getElem?_drop] using this
    refine ⟨g, off, cap, rfl, h1, h2.lt, h3, h5, by rw [h2.cell]; exact hx, .inr ⟨g, _, cap - 1, cur, rfl, h1, h2, by omega, by split <;> omega, by omega, ?_⟩⟩
    by_cases hc : 1 = cap
    · have : xs.length = 0 := by omega
      have : xs = [] := List.eq_nil_of_length_eq_zero this
      subst this; simp
    · rw [if_neg hc]
      rw [List.drop_eq_getElem_cons (by omega), List.take_succ_cons] at h6
      injection h6

/-- append(q, u), u just boxed in a block of its own: at the operation -/
theorem wpl_appQ {P : Program} {ops : Array Oper} {rest : List Oper} {o : Oper} {a : Act} {Q : Exit → Act → World → Prop} {w : World} (hgd : o.guard = none) (s x : Operand) (T : TypeId)
    (ho : o.op = .call { callee := .builtin .append, args := #[s, x], argTypes := #[T, T] })
    (E : TypeId) (z : Value) (bytes : Nat) (ht : P.underlying T = some (.slice E)) (hI : (P.info? E).map (fun i => (i.zero, i.size, i.bytes)) = some (some z, 1, bytes)) (hzs : z.cells.size = 1)
    (B : Nat) (v : Value) (xs : List Value) (hq : Que w B E v xs) (hb : B ≤ w.heap.size) (hs : a.eval s = v) (u : Value) (hu : u.oneCell' = true)
    (hx : a.eval x = .slice (some ⟨w.heap.size, 0, none⟩) 1 1) (hlen : xs.length + 1 ≤ maxLen) (hbytes : (xs.length + 1) * bytes ≤ 140737488355328)
    (h : ∀ v' w', Que w' B E v' (xs ++ [u]) → Chg (fun k => B ≤ k) w w' → wpList P ops Q rest (a.put o.dst v') w') :
    wpList P ops Q (o :: rest) a (w.alloc (.cells #[u] E)) := by
  obtain ⟨i, hi, hz, hsize, hby⟩ := info_parts hI
  have hnew : ∀ j y, [u][j]? = some y → (w.alloc (.cells #[u] E)).cell? ((⟨w.heap.size, 0, none⟩ : Addr).add j) = some y := cell_one_new _ _ _
  have hone : ∀ y ∈ [u], y.oneCell' = true := by intro y hy; simp at hy; subst hy; exact hu
  have hca : Chg (fun k => B ≤ k) w (w.alloc (.cells #[u] E)) := (Chg.refl _ w).alloc _
  rcases hq with ⟨rfl, rfl⟩ | ⟨g, off, cap, cur, rfl, h1, h2, h3, h4, h5, h6⟩
  · refine wpList_append_own_at (w.alloc (.cells #[u] E)) hgd s x T ho B E i z 1 bytes ht hi hz hsize hby hzs (by decide) (.slice none 0 0) 0 [] hs (World.ownsRow_nil _ _ _ _) ⟨w.heap.size, 0, none⟩ 1 1 [u] hx rfl hnew hone (by simpa using hlen) (by simpa using hbytes) (by simp; omega) ?_
    intro v' w' hown hgrow hnil hat
    exact h v' w' (.ofRow (by simpa using hown)) (hca.grown hgrow (fun k hk => by cases hk))
  · have h2a := h2.alloc (.cells #[u] E)
    refine wpList_append_arg (w.alloc (.cells #[u] E)) hgd s x T ho E i z 1 bytes ht hi hz hsize hby hzs (by decide) g off xs.length cap xs hs (by simp) ?_ ⟨w.heap.size, 0, none⟩ 1 1 [u] hx rfl hnew hone ?_ hlen hbytes ?_ ?_
    · intro j y hj
      rw [h2a.cell]
      have hjl := (List.getElem?_eq_some_iff.1 hj).1
      have := congrArg (·[j]?) h6
      simp only [List.getElem?_take, if_pos hjl, List.getElem?_drop] at this
      rw [this]; exact hj
    · intro hr j hj
      simp only [List.length_cons, List.length_nil] at hj
      obtain rfl : j = 0 := by omega
      rw [h2a.cell, h2a.free]
      refine ⟨?_, rfl⟩
      rw [Option.isSome_iff_exists]
      exact ⟨_, List.getElem?_eq_getElem (by omega)⟩
    · intro hr
      have e : (w.alloc (.cells #[u] E)).setCells g (off + xs.length * 1) [u] = (w.alloc (.cells #[u] E)).setCell ⟨g, off + xs.length, none⟩ u := by rw [Nat.mul_one]; rfl
      rw [e]
      refine h _ _ (.inr ⟨g, off, cap, cur.set (off + xs.length) u, by simp, h1, h2a.set _ _, by simpa using hr, by simpa using h4, h5, ?_⟩) (hca.set h1 _)
      have hl : off + xs.length < cur.length := by omega
      apply List.ext_getElem?
      intro j
      simp only [List.length_append, List.length_cons, List.length_nil, List.getElem?_take, List.getElem?_drop, List.getElem?_set]
      by_cases hj : j < xs.length
      · rw [if_pos (by omega), if_neg (by omega), List.getElem?_append_left hj]
        have := congrArg (·[j]?) h6
        simpa only [List.getElem?_take, if_pos hj, List.getElem?_drop] using this
      · by_cases hj2 : j = xs.length
        · subst hj2
          rw [if_pos (by omega), if_pos rfl, if_pos hl]; simp
        · rw [if_neg (by omega), List.getElem?_append_right (by omega), List.getElem?_eq_none (by simp; omega)]
    · intro hr v' w' hown hgrow
      refine h v' w' (.ofRow ?_) (hca.grown hgrow (fun k hk => by cases hk))
      have := ownsRow_mono hown (B' := B) (by simp; omega)
      simpa using this
end Go.Proofs.YtgkgpfennlkcnaaDoor
