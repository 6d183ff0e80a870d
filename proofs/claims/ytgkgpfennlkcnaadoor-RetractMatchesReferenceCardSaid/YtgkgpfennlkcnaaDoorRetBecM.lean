/- retract: Because in memory: chains, what a round finds -/
import Derived.Test.YtgkgpfennlkcnaaDoorRetBecP
import Derived.Test.YtgkgpfennlkcnaaDoorMapW
import Derived.WalkSpells
namespace Go.Proofs.YtgkgpfennlkcnaaDoor
open Go.RowKit

/-- a list of strings that lies apart from CH and from the blocks M; nil where it is empty -/
def ChV (w : World) (CH : Nat) (M : Nat → Prop) (v : Value) (l : List ByteArray) : Prop :=
  (l = [] ∧ v = .slice none 0 0) ∨ (l ≠ [] ∧ ∃ b off cap, v = .slice (some ⟨b, off, none⟩) l.length cap ∧ SlV w (some ⟨b, off, none⟩) (strsV l) ∧ b ≠ CH ∧ ¬ M b ∧ b < w.heap.size)
theorem ChV.nil (w : World) (CH : Nat) (M : Nat → Prop) : ChV w CH M (.slice none 0 0) [] := .inl ⟨rfl, rfl⟩
theorem ChV.chg {S M : Nat → Prop} {w w' : World} {CH : Nat} {v : Value} {l : List ByteArray} (h : ChV w CH M v l) (hc : Chg S w w') (hS : ∀ b, b < w.heap.size → b ≠ CH → ¬ M b → ¬ S b) : ChV w' CH M v l := by
  rcases h with h | ⟨h, b, off, cap, rfl, h1, h2, h3, h4⟩
  · exact .inl h
  · exact .inr ⟨h, b, off, cap, rfl, h1.chg hc (fun b' o' e _ => by cases e; exact hS b h4 h2 h3), h2, h3, Nat.lt_of_lt_of_le h4 hc.size⟩
theorem ChV.more {M M' : Nat → Prop} {w : World} {CH : Nat} {v : Value} {l : List ByteArray} (h : ChV w CH M v l) (hM : ∀ b, b < w.heap.size → M' b → M b) : ChV w CH M' v l := by
  rcases h with h | ⟨h, b, off, cap, rfl, h1, h2, h3, h4⟩
  · exact .inl h
  · exact .inr ⟨h, b, off, cap, rfl, h1, h2, fun q => h3 (hM b h4 q), h4⟩
theorem ChV.step {S M M' : Nat → Prop} {w w' : World} {CH : Nat} {v : Value} {l : List ByteArray} (h : ChV w CH M v l) (hc : Chg S w w') (hS : ∀ b, b < w.heap.size → S b → b = CH ∨ M b) (hM : ∀ b, b < w.heap.size → M' b → M b) : ChV w' CH M' v l := by
  rcases h with h | ⟨h, b, off, cap, rfl, h1, h2, h3, h4⟩
  · exact .inl h
  · exact .inr ⟨h, b, off, cap, rfl, h1.chg hc (fun b' o' e _ q => by cases e; exact (hS b h4 q).elim h2 h3), h2, fun q => h3 (hM b h4 q), Nat.lt_of_lt_of_le h4 hc.size⟩
structure Cs (w : World) (CH n : Nat) (f : Nat → List ByteArray) (M : Nat → Prop) : Prop where
  ex : ∃ vs : List Value, vs.length = n ∧ Blk w CH 23 vs ∧ ∀ i v, vs[i]? = some v → ChV w CH M v (f i)
theorem Cs.lt {w : World} {CH n : Nat} {f : Nat → List ByteArray} {M : Nat → Prop} (h : Cs w CH n f M) : CH < w.heap.size := by
  obtain ⟨vs, _, h2, _⟩ := h.ex; exact h2.lt
theorem Cs.start {w : World} {CH n : Nat} (h : Blk w CH 23 (List.replicate n (.slice none 0 0))) (M : Nat → Prop) : Cs w CH n (fun _ => []) M :=
  ⟨_, by simp, h, fun i v hv => by
    rw [List.getElem?_replicate] at hv
    split at hv
    · cases hv; exact ChV.nil _ _ _
    · cases hv⟩
theorem Cs.chg {S M : Nat → Prop} {w w' : World} {CH n : Nat} {f : Nat → List ByteArray} (h : Cs w CH n f M) (hc : Chg S w w') (h1 : ¬ S CH) (h2 : ∀ b, b < w.heap.size → S b → M b) : Cs w' CH n f M := by
  obtain ⟨vs, a1, a2, a3⟩ := h.ex
  exact ⟨vs, a1, a2.chg hc h1, fun i v hv => (a3 i v hv).chg hc (fun b hb _ hm q => hm (h2 b hb q))⟩
theorem Cs.below {M : Nat → Prop} {w w' : World} {CH n : Nat} {f : Nat → List ByteArray} (h : Cs w CH n f M) (hB : Below w.heap.size w w') : Cs w' CH n f M :=
  h.chg ((Chg.refl (fun _ => False) w).below hB (fun k a b => by omega)) (fun q => q) (fun _ _ q => q.elim)
theorem Cs.more {M M' : Nat → Prop} {w : World} {CH n : Nat} {f : Nat → List ByteArray} (h : Cs w CH n f M) (hM : ∀ b, b < w.heap.size → M' b → M b) : Cs w CH n f M' := by
  obtain ⟨vs, a1, a2, a3⟩ := h.ex
  exact ⟨vs, a1, a2, fun i v hv => (a3 i v hv).more hM⟩
theorem Cs.congr {M : Nat → Prop} {w : World} {CH n : Nat} {f f' : Nat → List ByteArray} (h : Cs w CH n f M) (hf : ∀ i, i < n → f' i = f i) : Cs w CH n f' M := by
  obtain ⟨vs, a1, a2, a3⟩ := h.ex
  refine ⟨vs, a1, a2, fun i v hv => ?_⟩
  rw [hf i (by rw [← a1]; exact (List.getElem?_eq_some_iff.1 hv).1)]
  exact a3 i v hv
theorem Cs.step {S M M' : Nat → Prop} {w w' : World} {CH n : Nat} {f : Nat → List ByteArray} (h : Cs w CH n f M) (hc : Chg S w w') (h1 : ¬ S CH) (hS : ∀ b, b < w.heap.size → S b → M b) (hM : ∀ b, b < w.heap.size → M' b → M b) : Cs w' CH n f M' := by
  obtain ⟨vs, a1, a2, a3⟩ := h.ex
  exact ⟨vs, a1, a2.chg hc h1, fun i v hv => (a3 i v hv).step hc (fun b hb q => .inr (hS b hb q)) hM⟩
theorem Cs.get {M : Nat → Prop} {w : World} {CH n : Nat} {f : Nat → List ByteArray} (h : Cs w CH n f M) {i : Nat} (hi : i < n) : ∃ v, w.cell? ⟨CH, i, none⟩ = some v ∧ w.frozen? ⟨CH, i, none⟩ = false ∧ ChV w CH M v (f i) := by
  obtain ⟨vs, a1, a2, a3⟩ := h.ex
  obtain ⟨v, hv⟩ : ∃ v, vs[i]? = some v := ⟨_, List.getElem?_eq_getElem (by omega)⟩
  exact ⟨v, by rw [a2.cell, hv], a2.free i, a3 i v hv⟩
theorem Cs.put {M : Nat → Prop} {w : World} {CH n : Nat} {f : Nat → List ByteArray} (h : Cs w CH n f M) {i : Nat} (hi : i < n) {v : Value} {l : List ByteArray} (hv : ChV w CH M v l) : Cs (w.setCell ⟨CH, i, none⟩ v) CH n (upd f i l) M := by
  obtain ⟨vs, a1, a2, a3⟩ := h.ex
  have hc : Chg (fun q => q = CH) w (w.setCell ⟨CH, i, none⟩ v) := (Chg.refl (fun q => q = CH) w).set (p := ⟨CH, i, none⟩) rfl _
  refine ⟨vs.set i v, by simpa using a1, a2.set i v, fun j u hu => ?_⟩
  rw [List.getElem?_set] at hu
  unfold upd
  by_cases e : i = j
  · subst e
    rw [if_pos rfl] at hu ⊢
    split at hu
    · cases hu
      exact hv.chg hc (fun b _ h1 _ => h1)
    · cases hu
  · rw [if_neg e] at hu
    rw [if_neg (fun q => e q.symm)]
    exact (a3 j u hu).chg hc (fun b _ h1 _ => h1)
abbrev intV (n : Int) : Value := .int .i64 n
/-- what a round has found -/
structure Fd (w : World) (CH n : Nat) (m : List (Int × Value)) (g : Nat → List ByteArray) (M : Nat → Prop) : Prop where
  nd : (m.map Prod.fst).Nodup
  get : ∀ t, t < n → (g t = [] ∧ lkM m (t : Int) = none) ∨ (g t ≠ [] ∧ ∃ v, lkM m (t : Int) = some v ∧ ChV w CH M v (g t))
  keys : ∀ k ∈ m.map Prod.fst, ∃ t : Nat, t < n ∧ k = (t : Int)
theorem Fd.start (w : World) (CH n : Nat) (M : Nat → Prop) : Fd w CH n [] (fun _ => []) M :=
  ⟨by simp, fun t _ => .inl ⟨rfl, rfl⟩, by simp⟩
theorem Fd.chg {S M : Nat → Prop} {w w' : World} {CH n : Nat} {m : List (Int × Value)} {g : Nat → List ByteArray} (h : Fd w CH n m g M) (hc : Chg S w w') (h2 : ∀ b, b < w.heap.size → S b → b = CH ∨ M b) : Fd w' CH n m g M :=
  ⟨h.nd, fun t ht => (h.get t ht).imp id (fun ⟨a, v, b, c⟩ => ⟨a, v, b, c.chg hc (fun b hb h1 hm q => (h2 b hb q).elim h1 hm)⟩), h.keys⟩
theorem Fd.more {M M' : Nat → Prop} {w : World} {CH n : Nat} {m : List (Int × Value)} {g : Nat → List ByteArray} (h : Fd w CH n m g M) (hM : ∀ b, b < w.heap.size → M' b → M b) : Fd w CH n m g M' :=
  ⟨h.nd, fun t ht => (h.get t ht).imp id (fun ⟨a, v, b, c⟩ => ⟨a, v, b, c.more hM⟩), h.keys⟩
theorem Fd.step {S M M' : Nat → Prop} {w w' : World} {CH n : Nat} {m : List (Int × Value)} {g : Nat → List ByteArray} (h : Fd w CH n m g M) (hc : Chg S w w') (hS : ∀ b, b < w.heap.size → S b → b = CH ∨ M b) (hM : ∀ b, b < w.heap.size → M' b → M b) : Fd w' CH n m g M' :=
  ⟨h.nd, fun t ht => (h.get t ht).imp id (fun ⟨a, v, b, c⟩ => ⟨a, v, b, c.step hc hS hM⟩), h.keys⟩
theorem upM_keys {K : Type} [DecidableEq K] (m : List (K × Value)) (k : K) (x : Value) : (upM m k x).map Prod.fst = if k ∈ m.map Prod.fst then m.map Prod.fst else m.map Prod.fst ++ [k] := by
  induction m with
  | nil => simp [upM]
  | cons p m ih =>
    unfold upM
    by_cases h : k = p.1
    · rw [if_pos h]; simp [h]
    · rw [if_neg h, List.map_cons, ih]
      simp only [List.map_cons, List.mem_cons, h, false_or]
      split <;> simp
theorem Fd.put {M : Nat → Prop} {w : World} {CH n : Nat} {m : List (Int × Value)} {g : Nat → List ByteArray} (h : Fd w CH n m g M) {t : Nat} (ht : t < n) {v : Value} {l : List ByteArray} (hl : l ≠ []) (hv : ChV w CH M v l) : Fd w CH n (upM m (t : Int) v) (upd g t l) M := by
  refine ⟨?_, fun u hu => ?_, fun k hk => ?_⟩
  · rw [upM_keys]
    split
    · exact h.nd
    · rename_i hn
      refine List.nodup_append.2 ⟨h.nd, by simp, fun a ha b hb => ?_⟩
      rw [List.mem_singleton] at hb
      subst hb
      intro e
      subst e
      exact hn ha
  · rw [lkM_up]
    unfold upd
    by_cases e : u = t
    · subst e
      rw [if_pos rfl, if_pos rfl]
      exact .inr ⟨hl, v, rfl, hv⟩
    · rw [if_neg e, if_neg (by omega)]
      exact h.get u hu
  · rw [upM_keys] at hk
    split at hk
    · exact h.keys k hk
    · rw [List.mem_append, List.mem_singleton] at hk
      rcases hk with hk | rfl
      · exact h.keys k hk
      · exact ⟨t, ht, rfl⟩
theorem lk_mem {K : Type} [DecidableEq K] {m : List (K × Value)} (hn : (m.map Prod.fst).Nodup) {p : K × Value} (hp : p ∈ m) : lkM m p.1 = some p.2 := by
  induction m with
  | nil => cases hp
  | cons q m ih =>
    rw [List.map_cons, List.nodup_cons] at hn
    unfold lkM
    rw [List.find?_cons]
    rcases List.mem_cons.1 hp with rfl | hp
    · simp
    · have : ¬ p.1 = q.1 := fun e => hn.1 (by rw [← e]; exact List.mem_map.2 ⟨p, hp, rfl⟩)
      rw [decide_eq_false this]
      have := ih hn.2 hp
      unfold lkM at this
      exact this
theorem lk_some {K : Type} [DecidableEq K] {m : List (K × Value)} {k : K} {v : Value} (h : lkM m k = some v) : (k, v) ∈ m := by
  unfold lkM at h
  rw [Option.map_eq_some_iff] at h
  obtain ⟨p, hp, rfl⟩ := h
  have := List.mem_of_find?_eq_some hp
  have hk := List.find?_some hp
  simp only [decide_eq_true_eq] at hk
  rw [hk]; exact this
theorem nodup_le : ∀ (n : Nat) (l : List Int), l.Nodup → (∀ k ∈ l, ∃ t : Nat, t < n ∧ k = (t : Int)) → l.length ≤ n
  | 0, l, _, h => by
    cases l with
    | nil => simp
    | cons a l => obtain ⟨t, ht, _⟩ := h a (by simp); omega
  | n + 1, l, hn, h => by
    by_cases hm : (n : Int) ∈ l
    · have h1 := nodup_le n (l.erase (n : Int)) (hn.erase _) (fun k hk => by
        obtain ⟨t, ht, rfl⟩ := h k (List.mem_of_mem_erase hk)
        refine ⟨t, ?_, rfl⟩
        have hne : (t : Int) ≠ (n : Int) := (List.Nodup.mem_erase_iff hn).1 hk |>.1
        omega)
      rw [List.length_erase_of_mem hm] at h1
      omega
    · have h1 := nodup_le n l hn (fun k hk => by
        obtain ⟨t, ht, rfl⟩ := h k hk
        refine ⟨t, ?_, rfl⟩
        have : t ≠ n := by rintro rfl; exact hm hk
        omega)
      omega
/-- a call by its contract, as a step of a region that draws its order; its result hangs on the world -/
theorem step_callE {P : Program} {ops : Array Oper} {o : Oper} {a : Act} {w : World} {K : Act → World → Prop} {Q : Exit → Act → World → Prop} {E : Prop} (W : World) (hgd : o.guard = none) (f : FuncId) (args : Array Value) (R : Value → World → Prop) (hw : w = W)
    (hrun : (execOp a.eval o).run P W = .ok (.enter f args) W) (hc : Calls P f args W fun e w' => ∃ v, e = .returned v ∧ R v w') (h : ∀ v w', R v w' → K (a.put o.dst v) w') :
    if Region.wanted o (yielded ops a.tmps) = true then Oper.wp P o a w K Q else E := by
  subst hw
  have hw : Region.wanted o (yielded ops a.tmps) = true := by simp [Region.wanted, hgd]
  rw [if_pos hw]
  unfold Oper.wp
  rw [hrun]
  exact hc.mono (by rintro e w' ⟨v, rfl, hr⟩; exact h v w' hr)
end Go.Proofs.YtgkgpfennlkcnaaDoor
