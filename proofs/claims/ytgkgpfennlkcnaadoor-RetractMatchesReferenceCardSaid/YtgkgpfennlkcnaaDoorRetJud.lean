/- retract: judge -/
import Derived.Test.YtgkgpfennlkcnaaDoorRetSup
import Derived.Deep.OwnRows
namespace Go.Proofs.YtgkgpfennlkcnaaDoor
open Go.RowKit

theorem results_cct {P : Program} {fn : Func} {p q r : Tmp} {T U : TypeId} (h : fn.results = #[.cell p T, .cell q U, .tmp r]) (tmps : Array Value) (w : World) (b c : Nat) (x y : Value)
    (hp : tmps[p]?.getD undef = .pointer (some ⟨b, 0, none⟩)) (hq : tmps[q]?.getD undef = .pointer (some ⟨c, 0, none⟩)) (h1 : (loadVar T ⟨b, 0, none⟩).run P w = .ok x w) (h2 : (loadVar U ⟨c, 0, none⟩).run P w = .ok y w) :
    (results fn tmps).run P w = .ok (.tuple #[x, y, tmps.getD r undef]) w := by
  simp only [results, h]
  simp [Sem.run_bind, Result.andThen, hp, hq, asAddr, h1, h2]
def strsV (l : List ByteArray) : List Value := l.map Value.string
noncomputable def judB (L : List Ent) (R : List ByteArray) : Bool := validB L && decide (R.length ≤ 1000)
def JudYes (L : List Ent) (R : List ByteArray) (n : Nat) (w : World) (e : Ending) (w' : World) : Prop :=
  ∃ gb sb, e = .returned (.tuple #[.slice (some ⟨gb, 0, none⟩) n n, .slice (some ⟨sb, 0, none⟩) n n, .int .i64 0]) ∧ SlV w' (some ⟨gb, 0, none⟩) (bools (goneL L R)) ∧ SlV w' (some ⟨sb, 0, none⟩) (bools (supL L R)) ∧ Below w.heap.size w w'
theorem Tryd.ulBools : Tryd.prog.underlying 26 = some (.slice 4) := by kernel_rfl
theorem Tryd.inBool : (Tryd.prog.info? 4).map (fun i => (i.zero, i.size, i.bytes)) = some (some (.bool false), 1, 1) := by kernel_rfl
theorem jud_world (w : World) : ∃ W : World, (w.alloc (.cells #[.slice none 0 0] 26)).alloc (.cells #[.slice none 0 0] 26) = W ∧ Blk W w.heap.size 26 [.slice none 0 0] ∧ Blk W (w.heap.size + 1) 26 [.slice none 0 0] ∧ Below w.heap.size w W :=
  ⟨_, rfl, (Blk.new w _ _).alloc _, (World.size_alloc w _ ▸ Blk.new (w.alloc _) _ _), (below_alloc w _).alloc (by simp) _⟩
theorem gr_world (w : World) (mb F n : Nat) : ∃ W : World, w.alloc (.cells #[.map (some mb), .slice (some ⟨F, 0, none⟩) n n] 50) = W ∧ Blk W w.heap.size 50 [.map (some mb), .slice (some ⟨F, 0, none⟩) n n] ∧ Below w.heap.size w W := ⟨_, rfl, Blk.new w _ _, below_alloc w _⟩
set_option maxHeartbeats 2000000 in
set_option maxRecDepth 100000 in
theorem jud_no (ao ro : Option Addr) (cap rc : Nat) (L : List Ent) (R : List ByteArray) (w : World) (hE : Ents w ao L) (hS : Small L) (hR : R.length ≤ 100000) (hj : judB L R = false) :
    Calls Tryd.prog 26 #[.slice ao L.length cap, .slice ro R.length rc] w fun e w' => e = .returned (.tuple #[.slice none 0 0, .slice none 0 0, .int .i64 1]) ∧ Below w.heap.size w w' := by
  have HR := hid (fun w (h : Ents w ao L) => read_any ao cap L w h hS)
  unfold judB at hj
  generalize L.length = n at *
  generalize R.length = m at *
  go_enter Tryd.func26, Tryd.ntmps26  ;go_upto_region 1 with fail  ;obtain ⟨w1, hw1, h1, h2, hB⟩ := jud_world w  ;rw [hw1]  ;clear hw1  ;go_wp2_with fail  ;refine (HR.out _ (hE.below hB)).mono ?_
  rintro e w2 ⟨mb, F, rfl, -, hB1⟩
  replace h1 := h1.below hB1 h1.lt  ;replace h2 := h2.below hB1 h2.lt  ;replace hB := hB.trans (hB1.mono hB.size)  ;have hwb : w.heap.size + 1 ≠ w.heap.size := (by omega)  ;have hle1 : w.heap.size ≤ w.heap.size + 1 := (by omega)  ;obtain ⟨b1, hb1⟩ : ∃ b, w.heap.size = b := ⟨_, rfl⟩  ;obtain ⟨b2, hb2⟩ : ∃ b, w.heap.size + 1 = b := ⟨_, rfl⟩  ;have hlt1 := h1.lt  ;have hlt2 := h2.lt
  simp only [hb2] at h2 hwb hle1 hlt2 ⊢
  simp only [hb1] at h1 hwb hle1 hlt1 ⊢
  have HB1 := hid hb1
  clear hB1 hE HR hb1 hb2
  have hjj : validB L = false ∨ (validB L = true ∧ 1000 < m) := by
    cases hv : validB L with
    | false => exact .inl rfl
    | true => rw [hv] at hj; simp at hj; exact .inr ⟨rfl, hj⟩
  clear hj
  rcases hjj with hv | ⟨hv, hm⟩
  · rw [hv]
    go_upto_region 2 with fail  ;obtain ⟨w3, hw3, hG, hBa⟩ := gr_world w2 mb F n  ;rw [hw3]  ;clear hw3  ;replace h1 := h1.below hBa h1.lt  ;replace h2 := h2.below hBa h2.lt  ;replace hB := hB.trans (hBa.mono hB.size)  ;clear hBa hlt1 hlt2  ;have c1 := h1.cell 0  ;have c2 := h2.cell 0  ;have f1 := h1.free 0  ;have f2 := h2.free 0  ;simp only [List.getElem?_cons_zero] at c1 c2  ;go_wp2_with fail  ;have k1 := (h1.set 0 (.slice none 0 0)).other ⟨b2, 0, none⟩ hwb.symm (.slice none 0 0)  ;have k2 := (h2.other ⟨b1, 0, none⟩ hwb (.slice none 0 0)).set 0 (.slice none 0 0)  ;have l1 := k1.cell 0  ;have l2 := k2.cell 0  ;simp only [List.set_cons_zero, List.getElem?_cons_zero] at l1 l2  ;have hle0 : w.heap.size ≤ b1 := (by have := HB1.out; omega)  ;(try simp only [Exit.inBlock, Exit.then]); refine bodyPost_ret (results_cct rfl _ _ b1 b2 (.slice none 0 0) (.slice none 0 0) rfl rfl ?_ ?_) rfl ?_  ;rotate_left 2  ;exact ⟨rfl, (hB.setCell (p := ⟨b1, 0, none⟩) hle0 _).setCell (p := ⟨b2, 0, none⟩) (Nat.le_trans hle0 hle1) _⟩  ;all_goals simp [go_sem, l1, l2]
  · rw [hv]
    have hmI : (1000 : Int) < (m : Int) := by omega
    go_upto_region 2 with fail  ;obtain ⟨w3, hw3, hG, hBa⟩ := gr_world w2 mb F n  ;rw [hw3]  ;clear hw3  ;replace h1 := h1.below hBa h1.lt  ;replace h2 := h2.below hBa h2.lt  ;replace hB := hB.trans (hBa.mono hB.size)  ;clear hBa hlt1 hlt2  ;have c1 := h1.cell 0  ;have c2 := h2.cell 0  ;have f1 := h1.free 0  ;have f2 := h2.free 0  ;simp only [List.getElem?_cons_zero] at c1 c2  ;go_wp2_with fail  ;have k1 := (h1.set 0 (.slice none 0 0)).other ⟨b2, 0, none⟩ hwb.symm (.slice none 0 0)  ;have k2 := (h2.other ⟨b1, 0, none⟩ hwb (.slice none 0 0)).set 0 (.slice none 0 0)  ;have l1 := k1.cell 0  ;have l2 := k2.cell 0  ;simp only [List.set_cons_zero, List.getElem?_cons_zero] at l1 l2  ;have hle0 : w.heap.size ≤ b1 := (by have := HB1.out; omega)  ;(try simp only [Exit.inBlock, Exit.then]); refine bodyPost_ret (results_cct rfl _ _ b1 b2 (.slice none 0 0) (.slice none 0 0) rfl rfl ?_ ?_) rfl ?_  ;rotate_left 2  ;exact ⟨rfl, (hB.setCell (p := ⟨b1, 0, none⟩) hle0 _).setCell (p := ⟨b2, 0, none⟩) (Nat.le_trans hle0 hle1) _⟩  ;all_goals simp [go_sem, l1, l2]
end Go.Proofs.YtgkgpfennlkcnaaDoor
