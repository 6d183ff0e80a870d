/- A region that draws its order: reads and calls that end in 'Below', beside ONE call that panics in every regrown world. -/
import Derived.Test.YtogcnmjipfllaaaDoorLibQ2
namespace Go.Proofs.YtogcnmjipfllaaaDoor
open Go Go.RowKit Go.Sort

section
variable {P : Program} {ops : Array Oper} {md : Region.Mode} {C : World → Prop} {Q : Exit → Act → World → Prop}
def panAt (P : Program) (ops : Array Oper) (C : World → Prop) (Q : Exit → Act → World → Prop) (n : Nat) (a : Act) : Prop :=
  ∃ o, ops[n]? = some o ∧ Region.wanted o (yielded ops a.tmps) = true ∧ ∀ w, C w → ∃ f args, (execOp a.eval o).run P w = .ok (.enter f args) w ∧
    Calls P f args w fun e w'' => ∃ chain, e = .panicked chain ∧ ∀ a' : Act, a'.defers = a.defers → Q (.panic chain) a' w''
theorem Act.put_defers (a : Act) (d : Option Tmp) (v : Value) : (a.put d v).defers = a.defers := by cases d <;> rfl
theorem panAt_put {n : Nat} {oi on : Oper} {a : Act} {v : Value} (hn : ops[n]? = some on) (hap : oi.apart ops on = true) (hsn : ∀ cs b, on.op ≠ .select cs b) (h : panAt P ops C Q n (a.put oi.dst v)) : panAt P ops C Q n a := by
  obtain ⟨o, ho, hw, hc⟩ := h
  have : o = on := Option.some.inj (ho.symm.trans hn)
  subst this
  obtain ⟨h1, -, -⟩ := Oper.apart_spec hap
  refine ⟨o, ho, by rwa [wanted_put o a oi.dst v h1] at hw, fun w hw' => ?_⟩
  obtain ⟨f, args, hr, hcl⟩ := hc w hw'
  rw [execOp_put o hsn a oi.dst v h1] at hr
  rw [Act.put_defers] at hcl
  exact ⟨f, args, hr, hcl⟩
theorem wpOp_of_panAt {n : Nat} {a : Act} {w : World} {K : Act → World → Prop} (hw : C w) (h : panAt P ops C Q n a) : wpOp P ops Q n K a w := by
  obtain ⟨o, ho, hwa, hc⟩ := h
  obtain ⟨f, args, hr, hcl⟩ := hc w hw
  unfold wpOp
  simp only [ho]
  rw [if_pos hwa]
  refine .inl ?_
  unfold Oper.wp
  rw [hr]
  exact hcl.mono (by rintro e w' ⟨chain, rfl, hq⟩; exact hq a rfl)
def wpPan (P : Program) (md : Region.Mode) (ops : Array Oper) (C : World → Prop) (Q : Exit → Act → World → Prop) (n : Nat) : Nat → Array Bool → Act → Prop
  | 0, _, _ => False
  | f + 1, listed, a => Region.ready md ops listed ≠ [] ∧ ∀ i ∈ Region.ready md ops listed, (i = n ∧ panAt P ops C Q n a) ∨ (i ≠ n ∧ qOp P ops C i (wpPan P md ops C Q n f (listed.setIfInBounds i true)) a)
theorem wpAny_of_wpPan {n g : Nat} : ∀ (f : Nat) (listed : Array Bool) (a : Act) (w : World), C w → wpPan P md ops C Q n f listed a → wpAny P md ops Q (f + g) listed a w
  | 0, _, _, _, _, h => h.elim
  | f + 1, listed, a, w, hw, h => by
    rw [show f + 1 + g = (f + g) + 1 by omega]
    refine ⟨fun h0 => absurd h0 h.1, fun i hi => ?_⟩
    rcases h.2 i hi with ⟨rfl, hp⟩ | ⟨_, hq⟩
    · exact wpOp_of_panAt hw hp
    · exact wpOp_of_qOp hw (fun a' w' hw' h' => wpAny_of_wpPan f _ a' w' hw' h') hq
theorem wpPan_first {n i : Nat} {oi : Oper} {v : Value} (hi : ops[i]? = some oi) (hsel : ∀ (j : Nat) (o : Oper) cs b, ops[j]? = some o → o.op ≠ .select cs b) (hin : i ≠ n) :
    ∀ (f : Nat) (listed : Array Bool) (a : Act),
      (∀ j oj, ops[j]? = some oj → j ≠ i → listed.getD j true = false → (∀ e ∈ oj.after, Region.binds md e = true → e.on ≠ i) → oi.apart ops oj = true) →
      i ∈ Region.ready md ops listed → YieldsIn P ops C oi v a →
      wpPan P md ops C Q n f (listed.setIfInBounds i true) (a.put oi.dst v) → wpPan P md ops C Q n (f + 1) listed a := by
  intro f
  induction f with
  | zero => intro listed a _ _ _ H; exact H.elim
  | succ f ih =>
    intro listed a hfree hr hy H
    have hun := (mem_ready.1 hr).1
    refine ⟨fun h => (by rw [h] at hr; cases hr), fun j hj => ?_⟩
    by_cases hji : j = i
    · subst hji; exact .inr ⟨hin, hy.qOp hi H⟩
    · obtain ⟨hjun, oj, hoj, hall⟩ := mem_ready.1 hj
      have hnot : ∀ e ∈ oj.after, Region.binds md e = true → e.on ≠ i := fun e he hb heq => by
        have h1 := hall e he hb
        rw [heq, getD_both hun] at h1
        cases h1
      have hap := hfree j oj hoj hji hjun hnot
      rcases H.2 j (ready_mono hj hji) with ⟨rfl, hp⟩ | ⟨hjn, h1⟩
      · exact .inl ⟨rfl, panAt_put hoj hap (fun cs b => hsel j oj cs b hoj) hp⟩
      · refine .inr ⟨hjn, ?_⟩
        have h2 := qOp_put hoj hap (fun cs b => hsel i oi cs b hi) (fun cs b => hsel j oj cs b hoj) hy h1
        have hfree' : ∀ k ok, ops[k]? = some ok → k ≠ i → (listed.setIfInBounds j true).getD k true = false →
            (∀ e ∈ ok.after, Region.binds md e = true → e.on ≠ i) → oi.apart ops ok = true := fun k ok hk hki hun hno => by
          refine hfree k ok hk hki ?_ hno
          by_cases hjk : j = k
          · subst hjk; exact hjun
          · rw [getD_set_ne true hjk] at hun; exact hun
        refine qOp_mono (fun a' h3 => ih (listed.setIfInBounds j true) a' hfree' (ready_mono hr (Ne.symm hji)) h3.1 ?_) h2
        rw [Array.setIfInBounds_comm _ _ hji]
        exact h3.2
def panB (md : Region.Mode) (ops : Array Oper) (n : Nat) : List Nat → Array Bool → Bool
  | [], listed => decide (Region.ready md ops listed = [n])
  | k :: ks, listed => decide (k ≠ n) && (Region.ready md ops listed).contains k && Region.free md ops listed k && panB md ops n ks (listed.setIfInBounds k true)
theorem wpPan_lex {n : Nat} (hsel : Region.noSelect ops = true) : ∀ (ks : List Nat) (listed : Array Bool) (a : Act), panB md ops n ks listed = true →
    wpQuiet P ops C (panAt P ops C Q n) (ks.filterMap (fun k => ops[k]?)) a → wpPan P md ops C Q n (ks.length + 1) listed a
  | [], listed, a, hB, h => by
    have hr : Region.ready md ops listed = [n] := by simpa [panB] using hB
    refine ⟨fun h0 => (by rw [hr] at h0; cases h0), fun i hi => ?_⟩
    rw [hr] at hi
    exact .inl ⟨by simpa using hi, h⟩
  | k :: ks, listed, a, hB, h => by
    simp only [panB, Bool.and_eq_true, decide_eq_true_eq] at hB
    obtain ⟨⟨⟨hkn, hr⟩, hf⟩, hB'⟩ := hB
    have hr' : k ∈ Region.ready md ops listed := by simpa using hr
    obtain ⟨_, ok, hok, _⟩ := mem_ready.1 hr'
    simp only [List.filterMap_cons, hok] at h
    have hst : qOp P ops C k (wpQuiet P ops C (panAt P ops C Q n) (ks.filterMap (fun k => ops[k]?))) a := by unfold qOp; simp only [hok]; exact h
    obtain ⟨v, hy, hK⟩ := yieldsIn_of_qOp hok hst
    exact wpPan_first hok (Region.noSelect_spec hsel) hkn (ks.length + 1) listed a (Region.free_spec hok hf) hr' hy (wpPan_lex hsel ks _ _ hB' hK)
def panics (md : Region.Mode) (ops : Array Oper) (n : Nat) (ks : List Nat) : Bool := Region.noSelect ops && decide (ks.length < ops.size) && panB md ops n ks (Array.replicate ops.size false)
/-- **the operations ks read, or call what ends in 'Below'; the operation n calls what panics; the others wait for it** -/
theorem wp_region_panics {id : Nat} {a : Act} {w : World} {l : List Oper} (n : Nat) (ks : List Nat) (hm : P.follows .mixedOrders = true) (hB : panics .any l.toArray n ks = true)
    (h : wpQuiet P l.toArray (fun w' => ∃ p : Regrown, w' = grow (redrawn w p.d) p.os) (panAt P l.toArray (fun w' => ∃ p : Regrown, w' = grow (redrawn w p.d) p.os) Q n) (ks.filterMap (fun k => l[k]?)) a) : (Code.region id l.toArray true).wp P Q a w := by
  simp only [panics, Bool.and_eq_true, decide_eq_true_eq] at hB
  obtain ⟨⟨hsel, hn⟩, hb⟩ := hB
  refine wp_region_any hm ?_
  have := wpAny_of_wpPan (md := .any) (g := l.toArray.size - (ks.length + 1)) (C := fun w' => ∃ p : Regrown, w' = grow (redrawn w p.d) p.os) (ks.length + 1) _ a { w with drawn := w.drawn + 1 } ⟨⟨w.drawn + 1, #[]⟩, by rw [grow_empty]; rfl⟩
    (wpPan_lex (P := P) (Q := Q) (n := n) (md := .any) (ops := l.toArray) hsel ks _ a hb (by simpa using h))
  rwa [show ks.length + 1 + (l.toArray.size - (ks.length + 1)) = l.toArray.size by omega] at this
end
end Go.Proofs.YtogcnmjipfllaaaDoor
