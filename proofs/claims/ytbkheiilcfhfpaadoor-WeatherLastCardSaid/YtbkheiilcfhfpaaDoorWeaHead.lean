/- weather: the laws' head -/
import Derived.Test.YtbkheiilcfhfpaaDoorWeaParse
import Derived.Test.YtbkheiilcfhfpaaDoorWeaEq
import Derived.Test.YtbkheiilcfhfpaaDoorWeaBg
namespace Go.Proofs.YtbkheiilcfhfpaaDoor
open Go.RowKit

theorem goP_len (en : Int) (f k : Nat) (ts : List Tok) (hk : k ≤ 200) : (goP en f k ts).1.length + k ≤ 200 := by
  induction f generalizing k ts with
  | zero => simpa [goP] using hk
  | succ f ih =>
    rw [goP]
    split
    · simpa using hk
    · cases ho : oneP en k ts with
      | bad e n => simpa using hk
      | ok s r =>
        have hne : k ≠ 200 := by
          intro e
          unfold oneP judge at ho
          split at ho
          · cases ho
          · split at ho
            · cases ho
            · first | (rw [if_pos e] at ho; cases ho) | cases ho
        have := ih (k + 1) r (by omega)
        show (joinS [s] (goP en f (k + 1) r)).1.length + k ≤ 200
        unfold joinS
        split
        · simp; omega
        · simp; omega
theorem parseL_len (l : List UInt8) : (parseL l).1.length ≤ 200 := by
  unfold parseL
  split
  · have := goP_len l.length ((lexL l).1.length + 1) 0 (lexL l).1 (by omega); simpa using this
  · simp
/-- Parse, as callers take it -/
theorem parse_rd (s : ByteArray) (w : World) (hs : s.size ≤ 1000000) : Calls Tryd.prog 14 #[.string s] w fun e w' =>
    ∃ ao cap, e = .returned (.tuple #[.slice ao (parseL s.data.toList).1.length cap, .int .i64 (parseL s.data.toList).2.1, .int .i64 (parseL s.data.toList).2.2]) ∧ Sps w' ao (parseL s.data.toList).1 ∧ Below w.heap.size w w' := by
  refine (parse_any s w hs).mono ?_
  rintro e w' ⟨v, rfl, hm⟩
  have hl := parseL_len s.data.toList
  obtain ⟨ao, cap, rfl, hsl, _⟩ := hm.slv (by rw [spsCells_len]; unfold maxLen; omega)
  exact ⟨ao, cap, rfl, hsl, hm.below⟩
theorem parse_eq {s : ByteArray} {L : List Sp} {x n : Int} (hs : s.size ≤ 1000000) (h : parseL s.data.toList = (L, x, n)) (w : World) : Calls Tryd.prog 14 #[.string s] w fun e w' =>
    ∃ ao cap, e = .returned (.tuple #[.slice ao L.length cap, .int .i64 x, .int .i64 n]) ∧ Sps w' ao L ∧ Below w.heap.size w w' := by
  have := parse_rd s w hs
  rw [h] at this
  exact this
/-- At, as callers take it -/
def atL (L : List Sp) (m : Int) : Cd × Int := if (allB L && momB m) = true then (condF L m, 0) else (cd0, 1)
theorem cond_any (ao : Option Addr) (cap : Nat) (L : List Sp) (m : Int) (w : World) (hA : Sps w ao L) (hl : L.length ≤ 100000) : Calls Tryd.prog 9 #[.slice ao L.length cap, .int .i64 m] w fun e w' =>
    e = .returned (.tuple #[(atL L m).1.v, .int .i64 (atL L m).2]) ∧ Below w.heap.size w w' := by
  unfold atL
  by_cases h : (allB L && momB m) = true
  · rw [if_pos h]
    simp only [Bool.and_eq_true] at h
    exact at_yes ao cap L m w hA hl h.1 h.2
  · rw [if_neg h]
    exact at_no ao cap L m w hA hl (by simpa using h)
theorem at_eq {L : List Sp} {m : Int} {c : Cd} {x : Int} {v : Value} (h : atL L m = (c, x)) (hl : L.length ≤ 100000) (hv : c.v = v) {ao : Option Addr} {cap : Nat} {w : World} (hA : Sps w ao L) : Calls Tryd.prog 9 #[.slice ao L.length cap, .int .i64 m] w fun e w' =>
    e = .returned (.tuple #[v, .int .i64 x]) ∧ Below w.heap.size w w' := by
  subst hv
  have := cond_any ao cap L m w hA hl
  rw [h] at this
  exact this
def x1 : ByteArray := ⟨#[99, 108, 111, 117, 100, 32, 50, 32, 51, 48, 48, 32, 102, 114, 111, 109, 32, 53, 32, 117, 110, 116, 105, 108, 32, 57, 59, 32, 99, 108, 111, 115, 101, 100, 32, 102, 114, 111, 109, 32, 57, 32, 117, 110, 116, 105, 108, 32, 57, 59]⟩
def x2 : ByteArray := ⟨#[115, 101, 101, 105, 110, 103, 32, 48, 32, 102, 114, 111, 109, 32, 49, 32, 117, 110, 116, 105, 108, 32, 50, 59]⟩
def x3 : ByteArray := ⟨#[99, 108, 111, 115, 101, 100, 32, 102, 114, 111, 109, 32, 50]⟩
def LX : List Sp := [⟨1, 2, 300, 5, 9⟩, ⟨3, 0, 0, 9, 9⟩]
theorem hx1 : parseL x1.data.toList = (LX, 0, 0) := by decide +kernel
theorem hx2 : parseL x2.data.toList = ([], 9, 23) := by decide +kernel
theorem hx3 : parseL x3.data.toList = ([], 6, 13) := by decide +kernel
theorem hy1 : atL LX 5 = (⟨1000, 1000, 300, 1000, 10, true⟩, 0) := by decide +kernel
theorem hy2 : atL LX 9 = (⟨1000, 1000, 300, 1000, 10, false⟩, 0) := by decide +kernel
theorem hy3 : atL LX 10 = (⟨1000, 1000, 1000, 1000, 10, true⟩, 0) := by decide +kernel
set_option maxHeartbeats 4000000 in
set_option maxRecDepth 100000 in
theorem head_any (w : World) : Calls Tryd.prog 8 #[] w fun e w' => e = .returned (.bool true) ∧ Below w.heap.size w w' := by
  have q1 := cd_eql ⟨1000, 1000, 300, 1000, 10, true⟩ ⟨1000, 1000, 300, 1000, 10, true⟩
  have q2 := cd_eql ⟨1000, 1000, 300, 1000, 10, false⟩ ⟨1000, 1000, 300, 1000, 10, false⟩
  have q3 := cd_eql ⟨1000, 1000, 1000, 1000, 10, true⟩ ⟨1000, 1000, 1000, 1000, 10, true⟩
  simp only [Cd.v, Cd.cells, decide_true] at q1 q2 q3
  go_enter Tryd.func8, Tryd.ntmps8
  go_wp2_with fail
  refine (parse_eq (s := x1) (by decide) hx1 _).mono ?_
  rintro e w1 ⟨ao, cap, rfl, hA, hB⟩
  rw [show LX.length = 2 from rfl]
  go_wp2_with fail
  refine (at_eq hy1 (by decide) (v := .agg #[.int .i64 1000, .int .i64 1000, .int .i64 300, .int .i64 1000, .int .i64 10, .bool true]) rfl hA).mono ?_
  rintro e wq ⟨rfl, hBq⟩
  go_wp2_with fail
  obtain ⟨W0, hW, hc0, hBa⟩ : ∃ W, wq.alloc (.cells #[.int .i64 1000, .int .i64 1000, .int .i64 300, .int .i64 1000, .int .i64 10, .bool true] 26) = W ∧ Blk W wq.heap.size 26 [.int .i64 1000, .int .i64 1000, .int .i64 300, .int .i64 1000, .int .i64 10, .bool true] ∧ Below wq.heap.size wq W := ⟨_, rfl, Blk.new _ _ _, below_alloc _ _⟩
  rw [hW]
  clear hW
  replace hA := (hA.below hBq).below hBa
  replace hB := (hB.trans (hBq.mono hB.size)).trans (hBa.mono (by have := hB.size; have := hBq.size; omega))
  clear hBq hBa
  generalize wq.heap.size = b0 at *
  refine (at_eq hy2 (by decide) (v := .agg #[.int .i64 1000, .int .i64 1000, .int .i64 300, .int .i64 1000, .int .i64 10, .bool false]) rfl hA).mono ?_
  rintro e wq ⟨rfl, hBq⟩
  go_wp2_with fail
  obtain ⟨W1, hW, hc1, hBa⟩ : ∃ W, wq.alloc (.cells #[.int .i64 1000, .int .i64 1000, .int .i64 300, .int .i64 1000, .int .i64 10, .bool false] 26) = W ∧ Blk W wq.heap.size 26 [.int .i64 1000, .int .i64 1000, .int .i64 300, .int .i64 1000, .int .i64 10, .bool false] ∧ Below wq.heap.size wq W := ⟨_, rfl, Blk.new _ _ _, below_alloc _ _⟩
  rw [hW]
  clear hW
  replace hA := (hA.below hBq).below hBa
  replace hB := (hB.trans (hBq.mono hB.size)).trans (hBa.mono (by have := hB.size; have := hBq.size; omega))
  replace hc0 := (hc0.below hBq hc0.lt).below hBa (hc0.below hBq hc0.lt).lt
  clear hBq hBa
  generalize wq.heap.size = b1 at *
  refine (at_eq hy3 (by decide) (v := .agg #[.int .i64 1000, .int .i64 1000, .int .i64 1000, .int .i64 1000, .int .i64 10, .bool true]) rfl hA).mono ?_
  rintro e wq ⟨rfl, hBq⟩
  go_wp2_with fail
  obtain ⟨W2, hW, hc2, hBa⟩ : ∃ W, wq.alloc (.cells #[.int .i64 1000, .int .i64 1000, .int .i64 1000, .int .i64 1000, .int .i64 10, .bool true] 26) = W ∧ Blk W wq.heap.size 26 [.int .i64 1000, .int .i64 1000, .int .i64 1000, .int .i64 1000, .int .i64 10, .bool true] ∧ Below wq.heap.size wq W := ⟨_, rfl, Blk.new _ _ _, below_alloc _ _⟩
  rw [hW]
  clear hW
  replace hA := (hA.below hBq).below hBa
  replace hB := (hB.trans (hBq.mono hB.size)).trans (hBa.mono (by have := hB.size; have := hBq.size; omega))
  replace hc0 := (hc0.below hBq hc0.lt).below hBa (hc0.below hBq hc0.lt).lt
  replace hc1 := (hc1.below hBq hc1.lt).below hBa (hc1.below hBq hc1.lt).lt
  clear hBq hBa
  generalize wq.heap.size = b2 at *
  refine (parse_eq (s := x2) (by decide) hx2 _).mono ?_
  rintro e wq ⟨ao2, cap2, rfl, -, hBq⟩
  replace hB := hB.trans (hBq.mono hB.size)
  replace hc0 := hc0.below hBq hc0.lt
  replace hc1 := hc1.below hBq hc1.lt
  replace hc2 := hc2.below hBq hc2.lt
  clear hBq hA
  go_wp2_with fail
  refine (parse_eq (s := x3) (by decide) hx3 _).mono ?_
  rintro e wr ⟨ao3, cap3, rfl, -, hBq⟩
  replace hB := hB.trans (hBq.mono hB.size)
  replace hc0 := hc0.below hBq hc0.lt
  replace hc1 := hc1.below hBq hc1.lt
  replace hc2 := hc2.below hBq hc2.lt
  clear hBq
  go_wp2_with fail
  refine (moon_yes 32 _ (by decide)).mono ?_
  rintro e w' ⟨rfl, rfl⟩
  rw [show brightF 32 = 133 from rfl, show (32 : Int) % 32 = 0 from rfl]
  go_wp2_with fail
  refine (bg_yes 15 15 _ (by decide) (by decide)).mono ?_
  rintro e w' ⟨rfl, rfl⟩
  rw [show bgF 15 15 = 10 from rfl]
  go_wp2_with fail
  refine (bg_yes 15 31 _ (by decide) (by decide)).mono ?_
  rintro e w' ⟨rfl, rfl⟩
  rw [show bgF 15 31 = 0 from rfl]
  go_wp2_with fail
  refine (bg_yes 15 16 _ (by decide) (by decide)).mono ?_
  rintro e w' ⟨rfl, rfl⟩
  rw [show bgF 15 16 = 9 from rfl]
  have d00 : ∀ o o' : Obj, ((wr.alloc o).alloc o').cell? ⟨b0, 0, none⟩ = some (.int .i64 1000) := (cell2 (hc0.cell 0)).2
  have d01 : ∀ o o' : Obj, ((wr.alloc o).alloc o').cell? ⟨b0, 1, none⟩ = some (.int .i64 1000) := (cell2 (hc0.cell 1)).2
  have d02 : ∀ o o' : Obj, ((wr.alloc o).alloc o').cell? ⟨b0, 2, none⟩ = some (.int .i64 300) := (cell2 (hc0.cell 2)).2
  have d03 : ∀ o o' : Obj, ((wr.alloc o).alloc o').cell? ⟨b0, 3, none⟩ = some (.int .i64 1000) := (cell2 (hc0.cell 3)).2
  have d04 : ∀ o o' : Obj, ((wr.alloc o).alloc o').cell? ⟨b0, 4, none⟩ = some (.int .i64 10) := (cell2 (hc0.cell 4)).2
  have d05 : ∀ o o' : Obj, ((wr.alloc o).alloc o').cell? ⟨b0, 5, none⟩ = some (.bool true) := (cell2 (hc0.cell 5)).2
  have d10 : ∀ o o' : Obj, ((wr.alloc o).alloc o').cell? ⟨b1, 0, none⟩ = some (.int .i64 1000) := (cell2 (hc1.cell 0)).2
  have d11 : ∀ o o' : Obj, ((wr.alloc o).alloc o').cell? ⟨b1, 1, none⟩ = some (.int .i64 1000) := (cell2 (hc1.cell 1)).2
  have d12 : ∀ o o' : Obj, ((wr.alloc o).alloc o').cell? ⟨b1, 2, none⟩ = some (.int .i64 300) := (cell2 (hc1.cell 2)).2
  have d13 : ∀ o o' : Obj, ((wr.alloc o).alloc o').cell? ⟨b1, 3, none⟩ = some (.int .i64 1000) := (cell2 (hc1.cell 3)).2
  have d14 : ∀ o o' : Obj, ((wr.alloc o).alloc o').cell? ⟨b1, 4, none⟩ = some (.int .i64 10) := (cell2 (hc1.cell 4)).2
  have d15 : ∀ o o' : Obj, ((wr.alloc o).alloc o').cell? ⟨b1, 5, none⟩ = some (.bool false) := (cell2 (hc1.cell 5)).2
  have d20 : ∀ o o' : Obj, ((wr.alloc o).alloc o').cell? ⟨b2, 0, none⟩ = some (.int .i64 1000) := (cell2 (hc2.cell 0)).2
  have d21 : ∀ o o' : Obj, ((wr.alloc o).alloc o').cell? ⟨b2, 1, none⟩ = some (.int .i64 1000) := (cell2 (hc2.cell 1)).2
  have d22 : ∀ o o' : Obj, ((wr.alloc o).alloc o').cell? ⟨b2, 2, none⟩ = some (.int .i64 1000) := (cell2 (hc2.cell 2)).2
  have d23 : ∀ o o' : Obj, ((wr.alloc o).alloc o').cell? ⟨b2, 3, none⟩ = some (.int .i64 1000) := (cell2 (hc2.cell 3)).2
  have d24 : ∀ o o' : Obj, ((wr.alloc o).alloc o').cell? ⟨b2, 4, none⟩ = some (.int .i64 10) := (cell2 (hc2.cell 4)).2
  have d25 : ∀ o o' : Obj, ((wr.alloc o).alloc o').cell? ⟨b2, 5, none⟩ = some (.bool true) := (cell2 (hc2.cell 5)).2
  go_wp2_with fail
  go_ret
  exact ⟨ret_bool (by first | rfl | simp), below2 hB hB.size _ _⟩
end Go.Proofs.YtbkheiilcfhfpaaDoor
