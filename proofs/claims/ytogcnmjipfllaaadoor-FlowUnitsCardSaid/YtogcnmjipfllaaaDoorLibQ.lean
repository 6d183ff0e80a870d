/- A region that draws its order: reads and quiet calls first, then a tail in one forced order: walked by the kit's cheap quiet steps. -/
import Derived.Test.YtogcnmjipfllaaaDoorLib
import Derived.StillTail
import Derived.BigQuiet
import Derived.WalkMore
namespace Go.Proofs.YtogcnmjipfllaaaDoor
open Go.RowKit

theorem still_of_quiet {P : Program} {ops : Array Oper} {w0 : World} {Q : Act → Prop} : ∀ (l : List Oper) (a : Act), wpQuiet P ops (fun w' => w' = w0) Q l a → wpStill P ops w0 Q l a
  | [], _, h => h
  | o :: l, a, h => by
    unfold wpQuiet at h
    unfold wpStill
    split
    · rename_i hw
      rw [if_pos hw] at h
      obtain ⟨v, h1, h2⟩ := h
      have h3 := h1 w0 rfl
      unfold Oper.still
      unfold Oper.quietAt at h3
      generalize (execOp a.eval o).run P w0 = r at *
      cases r with
      | ok n w' =>
        cases n <;> simp only [Oper.quietUpon] at h3 <;> simp only [Oper.stillUpon]
        case value u => obtain ⟨e1, e2⟩ := h3; rw [e2]; exact ⟨e1, still_of_quiet l _ h2⟩
        case skip => obtain ⟨e1, e2⟩ := h3; rw [← e2]; exact ⟨e1, still_of_quiet l _ h2⟩
        case enter f args => obtain ⟨e1, e2⟩ := h3; exact ⟨e1, v, e2, still_of_quiet l _ h2⟩
      | halt x w' => simp only [Oper.quietUpon] at h3
    · rename_i hw
      rw [if_neg hw] at h
      exact still_of_quiet l _ h

/-- the first n operations only read (or call what leaves the world alone); the others stand in one forced order -/
theorem wp_region_quiet_tail {P : Program} {id : Nat} {Q : Exit → Act → World → Prop} {a : Act} {w : World} {l : List Oper} (n : Nat) (hm : P.follows .mixedOrders = true) (hB : Region.lexTailB .any l.toArray n = true)
    (h : wpQuiet P l.toArray (fun w' => w' = w.drew) (fun a' => wpList P l.toArray Q (l.drop n) a' w.drew) (l.take n) a) : (Code.region id l.toArray true).wp P Q a w :=
  wp_region_still_tail n hm hB (still_of_quiet _ _ h)

/-- the whole region only reads (or calls what leaves the world alone) -/
theorem wp_region_quiet_all {P : Program} {id : Nat} {Q : Exit → Act → World → Prop} {a : Act} {w : World} {l : List Oper} (hm : P.follows .mixedOrders = true) (hB : Region.lexB .any l.toArray = true)
    (h : wpQuiet P l.toArray (fun w' => w' = w.drew) (fun a' => Q .normal a' w.drew) l a) : (Code.region id l.toArray true).wp P Q a w :=
  wp_region_still_lit hm hB (still_of_quiet _ _ h)

/-- the quiet walk is at its end -/
theorem wpQuiet_end {P : Program} {ops : Array Oper} {C : World → Prop} {Q : Act → Prop} {a : Act} (h : Q a) : wpQuiet P ops C Q [] a := h

end Go.Proofs.YtogcnmjipfllaaaDoor
