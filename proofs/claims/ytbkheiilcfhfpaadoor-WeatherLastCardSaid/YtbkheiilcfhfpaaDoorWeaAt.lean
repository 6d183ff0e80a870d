/- weather: At -/
import Derived.Test.YtbkheiilcfhfpaaDoorWeaAll
namespace Go.Proofs.YtbkheiilcfhfpaaDoor
open Go.RowKit

/-- conditions -/
structure Cd where
  c0 : Int
  c1 : Int
  c2 : Int
  c3 : Int
  s : Int
  o : Bool
deriving DecidableEq
def Cd.cells (c : Cd) : List Value := [.int .i64 c.c0, .int .i64 c.c1, .int .i64 c.c2, .int .i64 c.c3, .int .i64 c.s, .bool c.o]
def Cd.v (c : Cd) : Value := .agg c.cells.toArray
def cd0 : Cd := ⟨0, 0, 0, 0, 0, false⟩
def cdS : Cd := ⟨1000, 1000, 1000, 1000, 10, true⟩
def stepC (m : Int) (c : Cd) (s : Sp) : Cd :=
  if inR m s.a s.b = true then
    match s.k with
    | 1 => match s.q with
      | 0 => { c with c0 := s.n }
      | 1 => { c with c1 := s.n }
      | 2 => { c with c2 := s.n }
      | _ => { c with c3 := s.n }
    | 2 => { c with s := s.n }
    | 3 => { c with o := false }
    | _ => c
  else c
def condF (L : List Sp) (m : Int) : Cd := L.foldl (stepC m) cdS
theorem cond_take {L : List Sp} {m : Int} {k : Nat} {s : Sp} (h : L[k]? = some s) : condF (L.take (k + 1)) m = stepC m (condF (L.take k) m) s := by
  unfold condF
  rw [List.take_add_one, h, List.foldl_append]; rfl
theorem at_world (w : World) : ∃ w0 : World, (w.alloc (.cells #[.int .i64 0, .int .i64 0, .int .i64 0, .int .i64 0, .int .i64 0, .bool false] 26)) = w0 ∧ Blk w0 w.heap.size 26 cd0.cells ∧ Below w.heap.size w w0 :=
  ⟨_, rfl, Blk.new w _ _, below_alloc w _⟩
theorem chain {n : Nat} {w w1 w2 : World} (h : Below n w w1) (hn : n ≤ w1.heap.size) (h2 : Below w1.heap.size w1 w2) : Below n w w2 := h.trans (h2.mono hn)
theorem at_no (ao : Option Addr) (cap : Nat) (L : List Sp) (m : Int) (w : World) (hA : Sps w ao L) (hl : L.length ≤ 100000) (hv : (allB L && momB m) = false) : Calls Tryd.prog 9 #[.slice ao L.length cap, .int .i64 m] w fun e w' => e = .returned (.tuple #[cd0.v, .int .i64 1]) ∧ Below w.heap.size w w' := by
  have HA := hid (fun (w : World) (h : Sps w ao L) => all_any ao cap L w h hl)
  have HM := hid (fun w => moment_any m w)
  generalize L.length = len at *
  generalize hp : allB L = p at *
  generalize hq : momB m = q at *
  go_enter Tryd.func9, Tryd.ntmps9
  go_wp2_with fail
  obtain ⟨w0, hw0, hz, hB⟩ := at_world w
  rw [hw0]
  clear hw0
  refine (HA.out _ (hA.below hB)).mono ?_
  rintro e w1 ⟨rfl, hB1⟩
  replace hz := hz.below hB1 hz.lt
  replace hB := hB.trans (hB1.mono hB.size)
  cases p
  · go_wp2_with (refine wpList_store_row rfl 26 _ _ rfl w.heap.size _ rfl rfl 26 _ hz (by kernel_rfl) rfl (by simp [Value.oneCell']) ?_)
    (try simp only [Exit.inBlock, Exit.then]); refine bodyPost_ret (results_row2 rfl _ _ w.heap.size 26 _ _ rfl (setRow_heap _ _ _ _ _ _ hz) Tryd.underlying26 rfl (by kernel_rfl)) rfl ?_
    exact ⟨rfl, below_setRow hB (Nat.le_refl _) _⟩
  · cases q
    · go_wp2_with fail
      refine (HM.out _).mono ?_
      rintro e w2 ⟨rfl, rfl⟩
      go_wp2_with (refine wpList_store_row rfl 26 _ _ rfl w.heap.size _ rfl rfl 26 _ hz (by kernel_rfl) rfl (by simp [Value.oneCell']) ?_)
      (try simp only [Exit.inBlock, Exit.then]); refine bodyPost_ret (results_row2 rfl _ _ w.heap.size 26 _ _ rfl (setRow_heap _ _ _ _ _ _ hz) Tryd.underlying26 rfl (by kernel_rfl)) rfl ?_
      exact ⟨rfl, below_setRow hB (Nat.le_refl _) _⟩
    · cases hv
end Go.Proofs.YtbkheiilcfhfpaaDoor
