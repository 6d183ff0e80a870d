/- A region that draws its order: reads first (in every world of a class), then operations that make memory, in whatever order; then a tail in one forced order. -/
import Derived.Test.YtogcnmjipfllaaaDoorLibQ2
import Derived.OrdersHeld
namespace Go.Proofs.YtogcnmjipfllaaaDoor
open Go Go.RowKit Go.Sort

structure CW (S : World → Prop) where
  w : World
  ok : S w
section
variable {P : Program} {ops : Array Oper} {md : Region.Mode} {S : World → Prop} {Q : Exit → Act → World → Prop}
def sinkX (md : Region.Mode) (ops : Array Oper) (n : Nat) (xs : List Nat) : Bool :=
  (List.range n).all fun i => xs.contains i || (List.range (n + 1)).any fun j => decide (i < j) && Region.waitsFor md ops j i
theorem tail_waits3 {n : Nat} {xs : List Nat} {listed : Array Bool} (hs : sinkX md ops n xs = true) (hc : chain2B md ops n = true) (hn : n < ops.size) (inv : HeadInv md ops n listed) (hxs : ∀ x ∈ xs, listed.getD x true = true) :
    ∀ (d i : Nat), n - i = d → i < n → listed.getD i true = false → ∀ t, n ≤ t → t ∉ Region.ready md ops listed := by
  intro d
  induction d using Nat.strongRecOn with
  | _ d ih =>
    intro i hd hi hun t ht hr
    obtain ⟨_, ot, hot, hall⟩ := mem_ready.1 hr
    have htlt : t < ops.size := (Array.getElem?_eq_some_iff.1 hot).1
    by_cases htn : t = n
    · subst htn
      have h1 := List.all_eq_true.1 hs i (List.mem_range.2 hi)
      simp only [Bool.or_eq_true] at h1
      rcases h1 with h1 | h1
      · have := hxs i (by simpa using h1)
        rw [hun] at this
        cases this
      obtain ⟨j, hj, hj2⟩ := List.any_eq_true.1 h1
      simp only [Bool.and_eq_true, decide_eq_true_eq] at hj2
      obtain ⟨oj, hoj, e, he, hb, hon⟩ := Region.waitsFor_spec hj2.2
      have hjle : j ≤ t := by have := List.mem_range.1 hj; omega
      by_cases hjt : j = t
      · subst hjt
        have : oj = ot := Option.some.inj (hoj.symm.trans hot)
        subst this
        have h2 := hall e he hb
        rw [hon, getD_both hun] at h2
        cases h2
      · cases hl : listed.getD j false with
        | true =>
          have h2 := inv.closed j oj hoj hl e he hb
          rw [hon, getD_both hun] at h2
          cases h2
        | false =>
          have hjs : j < listed.size := by rw [inv.size]; omega
          exact ih (t - j) (by omega) j rfl (by omega) (getD_in hjs hl) t (Nat.le_refl _) hr
    · have h1 := List.all_eq_true.1 hc t (List.mem_range.2 htlt)
      simp only [Bool.or_eq_true, decide_eq_true_eq] at h1
      rcases h1 with h1 | h1
      · omega
      · obtain ⟨s, hs1, hs2⟩ := List.any_eq_true.1 h1
        simp only [Bool.and_eq_true, decide_eq_true_eq] at hs2
        obtain ⟨o', ho', e, he, hb, hon⟩ := Region.waitsFor_spec hs2.2
        have : o' = ot := Option.some.inj (ho'.symm.trans hot)
        subst this
        have h2 := hall e he hb
        rw [hon, getD_both (inv.tail s hs2.1 (List.mem_range.1 hs1))] at h2
        cases h2
theorem getD_set_keep {listed : Array Bool} {x i : Nat} (h : listed.getD x true = true) : (listed.setIfInBounds i true).getD x true = true := by
  by_cases hxi : i = x
  · subst hxi
    rcases Nat.lt_or_ge i listed.size with h' | h'
    · simp [h']
    · simp [Array.getElem?_eq_none (show (listed.setIfInBounds i true).size ≤ i by simpa using h')]
  · rw [getD_set_ne true hxi]; exact h
def wpMix (P : Program) (md : Region.Mode) (ops : Array Oper) (Q : Exit → Act → World → Prop) (S : World → Prop) (n : Nat) (L : Array Bool → Act → World → Prop) : Nat → Array Bool → Act → World → Prop
  | 0, listed, a, w => L listed a w
  | f + 1, listed, a, w => Region.ready md ops listed ≠ [] ∧ ∀ i ∈ Region.ready md ops listed, i < n ∧ wpOp P ops Q i (fun a' w' => S w' ∧ wpMix P md ops Q S n L f (listed.setIfInBounds i true) a' w') a w
theorem wpAny_of_wpMix {n g : Nat} {L : Array Bool → Act → World → Prop} (hL : ∀ listed a w, L listed a w → wpAny P md ops Q g listed a w) :
    ∀ (f : Nat) (listed : Array Bool) (a : Act) (w : World), wpMix P md ops Q S n L f listed a w → wpAny P md ops Q (f + g) listed a w
  | 0, listed, a, w, h => by rw [Nat.zero_add]; exact hL _ _ _ h
  | f + 1, listed, a, w, h => by
    rw [show f + 1 + g = (f + g) + 1 by omega]
    exact ⟨fun h0 => absurd h0 h.1, fun i hi => wpOp_mono (fun a' w' h' => wpAny_of_wpMix hL f _ a' w' h'.2) (h.2 i hi).2⟩
theorem wpMix_first {n i : Nat} {xs : List Nat} {oi : Oper} {v : Value} {L : Array Bool → Act → World → Prop} (hi : ops[i]? = some oi) (hsel : ∀ (j : Nat) (o : Oper) cs b, ops[j]? = some o → o.op ≠ .select cs b)
    (hQ : ∀ c a w, Q (.panic c) (a.put oi.dst v) w → Q (.panic c) a w)
    (hs : sinkX md ops n xs = true) (hc : chain2B md ops n = true) (hn : n < ops.size) (hin : i < n)
    (hdone : ∀ listed a w, L listed a w → ∀ j ∈ Region.ready md ops listed, n ≤ j) :
    ∀ (f : Nat) (listed : Array Bool) (a : Act) (w : World), HeadInv md ops n listed → (∀ x ∈ xs, listed.getD x true = true) →
      (∀ j oj, ops[j]? = some oj → j ≠ i → listed.getD j true = false → (∀ e ∈ oj.after, Region.binds md e = true → e.on ≠ i) → oi.apart ops oj = true) →
      i ∈ Region.ready md ops listed → YieldsIf P ops S oi v a → S w →
      wpMix P md ops Q S n L f (listed.setIfInBounds i true) (a.put oi.dst v) w → wpMix P md ops Q S n L (f + 1) listed a w := by
  intro f
  induction f with
  | zero =>
    intro listed a w inv hxs _ hr hy hS H
    have hun := (mem_ready.1 hr).1
    refine ⟨fun h => (by rw [h] at hr; cases hr), fun j hj => ?_⟩
    have hjn : j < n := by
      rcases Nat.lt_or_ge j n with h | h
      · exact h
      · exact absurd hj (tail_waits3 hs hc hn inv hxs _ i rfl hin hun j h)
    refine ⟨hjn, ?_⟩
    by_cases hji : j = i
    · subst hji; exact hy.wpOp hi hS ⟨hS, H⟩
    · have := hdone _ _ _ H j (ready_mono hj hji)
      omega
  | succ f ih =>
    intro listed a w inv hxs hfree hr hy hS H
    have hun := (mem_ready.1 hr).1
    refine ⟨fun h => (by rw [h] at hr; cases hr), fun j hj => ?_⟩
    have hjn : j < n := by
      rcases Nat.lt_or_ge j n with h | h
      · exact h
      · exact absurd hj (tail_waits3 hs hc hn inv hxs _ i rfl hin hun j h)
    refine ⟨hjn, ?_⟩
    by_cases hji : j = i
    · subst hji; exact hy.wpOp hi hS ⟨hS, H⟩
    · have h1 := (H.2 j (ready_mono hj hji)).2
      obtain ⟨hjun, oj, hoj, hall⟩ := mem_ready.1 hj
      have hnot : ∀ e ∈ oj.after, Region.binds md e = true → e.on ≠ i := fun e he hb heq => by
        have h1 := hall e he hb
        rw [heq, getD_both hun] at h1
        cases h1
      have h2 := wpOp_putIf hoj (hfree j oj hoj hji hjun hnot) (fun cs b => hsel i oi cs b hi) (fun cs b => hsel j oj cs b hoj) hQ hy h1
      have hfree' : ∀ k ok, ops[k]? = some ok → k ≠ i → (listed.setIfInBounds j true).getD k true = false →
          (∀ e ∈ ok.after, Region.binds md e = true → e.on ≠ i) → oi.apart ops ok = true := fun k ok hk hki hun hno => by
        refine hfree k ok hk hki ?_ hno
        by_cases hjk : j = k
        · subst hjk; exact hjun
        · rw [getD_set_ne true hjk] at hun; exact hun
      refine wpOp_mono (fun a' w' h3 => ⟨h3.2.1, ih (listed.setIfInBounds j true) a' w' (inv.set hj hjn) (fun x hx => getD_set_keep (hxs x hx)) hfree' (ready_mono hr (Ne.symm hji)) h3.1 h3.2.1 ?_⟩) h2
      rw [Array.setIfInBounds_comm _ _ hji]
      exact h3.2.2
/-- the reads, one after the other -/
def wpStC (P : Program) (ops : Array Oper) (S : World → Prop) (Q : Act → Prop) : List Oper → Act → Prop
  | [], a => Q a
  | o :: rest, a => if Region.wanted o (yielded ops a.tmps) = true then ∃ v, (∀ p : CW S, (execOp a.eval o).run P p.w = .ok (.value v) p.w) ∧ wpStC P ops S Q rest (a.put o.dst v) else wpStC P ops S Q rest (a.put o.dst undef)
theorem wpStC_nil {Q : Act → Prop} {a : Act} (h : Q a) : wpStC P ops S Q [] a := h
theorem wpStC_step {Q : Act → Prop} {a : Act} {o : Oper} {rest : List Oper}
    (h : ∀ K : Act → Prop, (∀ a, wpStC P ops S Q rest a → K a) → if Region.wanted o (yielded ops a.tmps) = true then ∃ v, (∀ p : CW S, (execOp a.eval o).run P p.w = .ok (.value v) p.w) ∧ K (a.put o.dst v) else K (a.put o.dst undef)) : wpStC P ops S Q (o :: rest) a :=
  h _ (fun _ h => h)
/-- the reads ks can be taken first -/
def mixB (md : Region.Mode) (ops : Array Oper) (n : Nat) : List Nat → Array Bool → Bool
  | [], _ => true
  | k :: ks, listed => decide (k < n) && (Region.ready md ops listed).contains k && Region.free md ops listed k && mixB md ops n ks (listed.setIfInBounds k true)
def listAll : List Nat → Array Bool → Array Bool
  | [], l => l
  | k :: ks, l => listAll ks (l.setIfInBounds k true)
theorem wpMix_lex {n f : Nat} {xs : List Nat} {L : Array Bool → Act → World → Prop} (hsel : Region.noSelect ops = true) (hQ : ∀ d v c a w, Q (.panic c) (Act.put a d v) w → Q (.panic c) a w)
    (hs : sinkX md ops n xs = true) (hc : chain2B md ops n = true) (hn : n < ops.size) (hdone : ∀ listed a w, L listed a w → ∀ j ∈ Region.ready md ops listed, n ≤ j) :
    ∀ (ks : List Nat) (listed : Array Bool) (a : Act) (w : World), HeadInv md ops n listed → (∀ x ∈ xs, listed.getD x true = true) → mixB md ops n ks listed = true → S w →
    wpStC P ops S (fun a' => HeadInv md ops n (listAll ks listed) → wpMix P md ops Q S n L f (listAll ks listed) a' w) (ks.filterMap (fun k => ops[k]?)) a → wpMix P md ops Q S n L (f + ks.length) listed a w
  | [], listed, a, w, inv, _, _, _, h => h inv
  | k :: ks, listed, a, w, inv, hxs, hB, hS, h => by
    simp only [mixB, Bool.and_eq_true, decide_eq_true_eq] at hB
    obtain ⟨⟨⟨hkn, hr⟩, hf⟩, hB'⟩ := hB
    have hr' : k ∈ Region.ready md ops listed := by simpa using hr
    obtain ⟨_, ok, hok, _⟩ := mem_ready.1 hr'
    simp only [List.filterMap_cons, hok, wpStC] at h
    have hy : ∃ v, YieldsIf P ops S ok v a ∧ wpStC P ops S (fun a' => HeadInv md ops n (listAll ks (listed.setIfInBounds k true)) → wpMix P md ops Q S n L f (listAll ks (listed.setIfInBounds k true)) a' w) (ks.filterMap (fun k => ops[k]?)) (a.put ok.dst v) := by
      by_cases hw : Region.wanted ok (yielded ops a.tmps) = true
      · rw [if_pos hw] at h
        obtain ⟨v, h1, h2⟩ := h
        exact ⟨v, .inl ⟨hw, fun w hw' => h1 ⟨w, hw'⟩⟩, h2⟩
      · rw [if_neg hw] at h
        exact ⟨undef, .inr ⟨by simpa using hw, rfl⟩, h⟩
    obtain ⟨v, hy, hK⟩ := hy
    rw [List.length_cons, ← Nat.add_assoc]
    exact wpMix_first hok (Region.noSelect_spec hsel) (hQ _ _) hs hc hn hkn hdone (f + ks.length) listed a w inv hxs (Region.free_spec hok hf) hr' hy hS
      (wpMix_lex hsel hQ hs hc hn hdone ks _ _ w (inv.set hr' hkn) (fun x hx => getD_set_keep (hxs x hx)) hB' hS hK)
theorem wpMix_all {n f : Nat} {L : Array Bool → Act → World → Prop} {rs : List Nat} {listed : Array Bool} {a : Act} {w : World} (hr : Region.ready md ops listed = rs) (hne : rs ≠ [])
    (h : ∀ i ∈ rs, i < n ∧ wpOp P ops Q i (fun a' w' => S w' ∧ wpMix P md ops Q S n L f (listed.setIfInBounds i true) a' w') a w) : wpMix P md ops Q S n L (f + 1) listed a w :=
  ⟨fun h0 => absurd (hr ▸ h0) hne, by rw [hr]; exact h⟩
theorem wpOp_val {n : Nat} {o : Oper} {a : Act} {w w' : World} {v : Value} {K : Act → World → Prop} (hn : ops[n]? = some o) (hgd : o.guard = none) (hrun : (execOp a.eval o).run P w = .ok (.value v) w') (h : K (a.put o.dst v) w') : wpOp P ops Q n K a w := by
  have hw : Region.wanted o (yielded ops a.tmps) = true := by simp [Region.wanted, hgd]
  unfold wpOp
  simp only [hn]
  rw [if_pos hw]
  refine .inl ?_
  unfold Oper.wp
  rw [hrun]
  exact h
theorem wpOp_if {n : Nat} {o : Oper} {a : Act} {w : World} {K : Act → World → Prop} {G : Prop} (hn : ops[n]? = some o) (hgd : o.guard = none) (h : if Region.wanted o (yielded ops a.tmps) = true then Oper.wp P o a w K Q else G) : wpOp P ops Q n K a w := by
  have hw : Region.wanted o (yielded ops a.tmps) = true := by simp [Region.wanted, hgd]
  unfold wpOp
  simp only [hn]
  rw [if_pos hw]
  rw [if_pos hw] at h
  exact .inl h
/-- the operations xs look at no world: they are taken first of all -/
theorem wpAny_lexX {n g : Nat} (hsel : Region.noSelect ops = true) (hQ : ∀ d v c a w, Q (.panic c) (Act.put a d v) w → Q (.panic c) a w) :
    ∀ (xs : List Nat) (listed : Array Bool) (a : Act) (w : World), HeadInv md ops n listed → mixB md ops n xs listed = true →
    wpStC P ops (fun _ => True) (fun a' => HeadInv md ops n (listAll xs listed) → wpAny P md ops Q g (listAll xs listed) a' w) (xs.filterMap (fun k => ops[k]?)) a → wpAny P md ops Q (g + xs.length) listed a w
  | [], listed, a, w, inv, _, h => h inv
  | k :: ks, listed, a, w, inv, hB, h => by
    simp only [mixB, Bool.and_eq_true, decide_eq_true_eq] at hB
    obtain ⟨⟨⟨hkn, hr⟩, hf⟩, hB'⟩ := hB
    have hr' : k ∈ Region.ready md ops listed := by simpa using hr
    obtain ⟨_, ok, hok, _⟩ := mem_ready.1 hr'
    simp only [List.filterMap_cons, hok, wpStC] at h
    have hy : ∃ v, Yields P ops ok v a ∧ wpStC P ops (fun _ => True) (fun a' => HeadInv md ops n (listAll ks (listed.setIfInBounds k true)) → wpAny P md ops Q g (listAll ks (listed.setIfInBounds k true)) a' w) (ks.filterMap (fun k => ops[k]?)) (a.put ok.dst v) := by
      by_cases hw : Region.wanted ok (yielded ops a.tmps) = true
      · rw [if_pos hw] at h
        obtain ⟨v, h1, h2⟩ := h
        exact ⟨v, .inl ⟨hw, fun w => h1 ⟨w, trivial⟩⟩, h2⟩
      · rw [if_neg hw] at h
        exact ⟨undef, .inr ⟨by simpa using hw, rfl⟩, h⟩
    obtain ⟨v, hy, hK⟩ := hy
    rw [List.length_cons, ← Nat.add_assoc]
    exact wpAny_take hok hsel hf hr (hQ _ _) hy (wpAny_lexX hsel hQ ks _ _ w (inv.set hr' hkn) hB' hK)
theorem listAll_keep : ∀ (ks : List Nat) (l : Array Bool) (x : Nat), l.getD x true = true → (listAll ks l).getD x true = true
  | [], _, _, h => h
  | _k :: ks, _l, x, h => listAll_keep ks _ x (getD_set_keep h)
theorem listAll_has : ∀ (ks : List Nat) (l : Array Bool) (x : Nat), x ∈ ks → (listAll ks l).getD x true = true
  | [], _, _, h => by cases h
  | k :: ks, l, x, h => by
    rcases List.mem_cons.1 h with rfl | h
    · refine listAll_keep ks _ x ?_
      rcases Nat.lt_or_ge x l.size with h' | h'
      · simp [h']
      · simp [Array.getElem?_eq_none (show (l.setIfInBounds x true).size ≤ x by simpa using h')]
    · exact listAll_has ks _ x h
theorem wpStC_mono {S : World → Prop} {Q1 Q2 : Act → Prop} (hq : ∀ a, Q1 a → Q2 a) : ∀ (os : List Oper) (a : Act), wpStC P ops S Q1 os a → wpStC P ops S Q2 os a
  | [], _, h => hq _ h
  | o :: os, a, h => by
    simp only [wpStC] at h ⊢
    split
    · rename_i hw; rw [if_pos hw] at h; obtain ⟨v, h1, h2⟩ := h; exact ⟨v, h1, wpStC_mono hq os _ h2⟩
    · rename_i hw; rw [if_neg hw] at h; exact wpStC_mono hq os _ h
def mixesB (md : Region.Mode) (ops : Array Oper) (n : Nat) (xs ks : List Nat) : Bool :=
  Region.noSelect ops && decide (n < ops.size) && decide (xs.length + ks.length ≤ n) && sinkX md ops n xs && chain2B md ops n && mixB md ops n xs (Array.replicate ops.size false) && mixB md ops n ks (listAll xs (Array.replicate ops.size false))
/-- **what looks at no world (xs), taken first of all; the reads ks, taken first; then the others below n in whatever order; then the tail from n on, in one forced order** -/
theorem wp_region_mix {id : Nat} {a : Act} {w : World} {l : List Oper} (S : World → Prop) (n : Nat) (xs ks : List Nat) (hm : P.follows .mixedOrders = true) (hB : mixesB .any l.toArray n xs ks = true)
    (hQ : ∀ d v c a w, Q (.panic c) (Act.put a d v) w → Q (.panic c) a w) (hS : S w.drew)
    (h : wpStC P l.toArray (fun _ => True) (fun a1 => wpStC P l.toArray S (fun a' => wpMix P .any l.toArray Q S n (fun listed a w => Region.seqB .any l.toArray (l.length - n) n listed = true ∧ wpList P l.toArray Q (l.drop n) a w) (n - (xs.length + ks.length)) (listAll ks (listAll xs (Array.replicate l.length false))) a' w.drew) (ks.filterMap (fun k => l[k]?)) a1) (xs.filterMap (fun k => l[k]?)) a) : (Code.region id l.toArray true).wp P Q a w := by
  simp only [mixesB, Bool.and_eq_true, decide_eq_true_eq] at hB
  obtain ⟨⟨⟨⟨⟨⟨hsel, hn⟩, hkl⟩, hs⟩, hc⟩, hbx⟩, hbk⟩ := hB
  have hn' : n < l.length := by simpa using hn
  have hdl : (l.drop n).length = l.length - n := by simp
  have inv0 : HeadInv .any l.toArray n (Array.replicate l.toArray.size false) :=
    ⟨by simp, fun j oj _ hl => (by rw [getD_replicate_false] at hl; cases hl), fun t _ ht => getD_in (by simpa using ht) (getD_replicate_false _ _)⟩
  refine wp_region_any hm ?_
  have e : ∀ ks : List Nat, (ks.filterMap fun k => l.toArray[k]?) = ks.filterMap fun k => l[k]? := fun ks => by simp
  have H := wpAny_lexX (P := P) (Q := Q) (md := .any) (n := n) (g := n - (xs.length + ks.length) + ks.length + (l.length - n)) hsel hQ xs (Array.replicate l.toArray.size false) a w.drew inv0 hbx (by
    rw [e]
    refine wpStC_mono (fun a1 h1 inv1 => ?_) _ _ h
    have HM : wpMix P .any l.toArray Q S n (fun listed a w => Region.seqB .any l.toArray (l.length - n) n listed = true ∧ wpList P l.toArray Q (l.drop n) a w) (n - (xs.length + ks.length) + ks.length) (listAll xs (Array.replicate l.toArray.size false)) a1 w.drew := by
      refine wpMix_lex hsel hQ hs hc hn (fun listed a w hL => seqB_ready hL.1) ks _ a1 w.drew inv1 (fun x hx => listAll_has _ _ _ hx) hbk hS ?_
      rw [e]
      refine wpStC_mono (fun a' h' _ => ?_) _ _ h1
      simpa using h'
    refine wpAny_of_wpMix (L := fun listed a w => Region.seqB .any l.toArray (l.length - n) n listed = true ∧ wpList P l.toArray Q (l.drop n) a w) (g := l.length - n) (fun listed a' w' hL => ?_) _ _ _ _ HM
    have := wpAny_of_seq (md := .any) (Q' := Q) (l.drop n) n listed a' w' (fun j => by simp [List.getElem?_drop]) (by rw [hdl]; exact hL.1) hL.2
    rwa [hdl] at this)
  rw [show n - (xs.length + ks.length) + ks.length + (l.length - n) + xs.length = l.toArray.size by simp; omega] at H
  exact H
end
end Go.Proofs.YtogcnmjipfllaaaDoor
