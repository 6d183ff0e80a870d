/- unit: the law's head -/
import Derived.Test.YtmfoincmjpogmaaDoorUnitParse
import Derived.Test.YtmfoincmjpogmaaDoorUnitPower
namespace Go.Proofs.YtmfoincmjpogmaaDoor
open Go.RowKit

/-- units that lie in blocks -/
def Un (w : World) (L : List (Nat × U)) : Prop := ∀ p ∈ L, Blk w p.1 23 (uCells p.2)
theorem Un.nil (w : World) : Un w [] := by intro p hp; simp at hp
theorem Un.below {w w' : World} {L : List (Nat × U)} (h : Un w L) (hB : Below w.heap.size w w') : Un w' L := fun p hp => (h p hp).below hB (h p hp).lt
theorem Un.alloc {w : World} {L : List (Nat × U)} (h : Un w L) (o : Obj) : Un (w.alloc o) L := fun p hp => (h p hp).alloc o
theorem Un.new {w : World} {L : List (Nat × U)} (h : Un w L) (u : U) : Un (w.alloc (.cells #[.int .i64 u.a, .int .i64 u.b, .int .i64 u.c] 23)) ((w.heap.size, u) :: L) := by
  intro p hp
  rw [List.mem_cons] at hp
  rcases hp with rfl | hp
  · exact Blk.new w _ _
  · exact (h p hp).alloc _
theorem Un.get {w : World} {L : List (Nat × U)} (h : Un w L) (i : Nat) (b : Nat) (u : U) (hi : L[i]? = some (b, u)) : Blk w b 23 (uCells u) := h (b, u) (List.mem_of_getElem? hi)
theorem Blk.three {w : World} {b : Nat} {u : U} (h : Blk w b 23 (uCells u)) : w.cell? ⟨b, 0, none⟩ = some (.int .i64 u.a) ∧ w.cell? ⟨b, 1, none⟩ = some (.int .i64 u.b) ∧ w.cell? ⟨b, 2, none⟩ = some (.int .i64 u.c) := ⟨h.cell 0, h.cell 1, h.cell 2⟩

theorem mul_eq {u v x : U} {e : Int} (h : mulU u v = x ∧ mulE u v = e) (w : World) : Calls Tryd.prog 9 #[uV u, uV v] w fun en w' => en = .returned (.tuple #[uV x, .int .i64 e]) ∧ Below w.heap.size w w' := by
  obtain ⟨rfl, rfl⟩ := h; exact mul_any u v w
theorem pow_eq {u x : U} {n e : Int} (h : powR u n = (x, e)) (w : World) : Calls Tryd.prog 11 #[uV u, .int .i64 n] w fun en w' => en = .returned (.tuple #[uV x, .int .i64 e]) ∧ Below w.heap.size w w' := by
  have := power_any u n w
  rw [h] at this; exact this
theorem parse_eq {s : ByteArray} {x : U} {e : Int} (hs : s.size ≤ 100000) (h : parseU s.data.toList = x ∧ parseE s.data.toList = e) (w : World) (hL : LayU w) : Calls Tryd.prog 15 #[.string s] w fun en w' => en = .returned (.tuple #[uV x, .int .i64 e]) ∧ Below w.heap.size w w' := by
  obtain ⟨rfl, rfl⟩ := h; exact parse_any s w hs hL

def sSC : ByteArray := ⟨#[115, 101, 99, 111, 110, 100, 115, 32, 99, 111, 117, 110, 116, 115]⟩
def sC1 : ByteArray := ⟨#[99, 111, 117, 110, 116, 115, 94, 49]⟩
def sC2S : ByteArray := ⟨#[99, 111, 117, 110, 116, 115, 94, 50, 32, 115, 101, 99, 111, 110, 100, 115, 94, 45, 49]⟩
theorem h1 : mulU ⟨8, 0, 0⟩ ⟨1, 0, 0⟩ = u0 ∧ mulE ⟨8, 0, 0⟩ ⟨1, 0, 0⟩ = 9 := by decide +kernel
theorem h2 : powR ⟨2, 0, -1⟩ (-4) = (⟨-8, 0, 4⟩, 0) := by decide +kernel
theorem h3 : powR ⟨2, 0, -1⟩ 5 = (u0, 9) := by decide +kernel
theorem h4 : parseU sSC.data.toList = u0 ∧ parseE sSC.data.toList = 5 := by decide +kernel
theorem h5 : parseU sC1.data.toList = u0 ∧ parseE sC1.data.toList = 5 := by decide +kernel
theorem h6 : parseU (⟨#[]⟩ : ByteArray).data.toList = u0 ∧ parseE (⟨#[]⟩ : ByteArray).data.toList = 5 := by decide +kernel
theorem h7 : parseU sC2S.data.toList = ⟨2, 0, -1⟩ ∧ parseE sC2S.data.toList = 0 := by decide +kernel
theorem h8 : textB ⟨2, 0, -1⟩ = sC2S := by decide +kernel
theorem h9 : textB u0 = ⟨#[49]⟩ := by decide +kernel
theorem h10 : textB ⟨0, 1, 0⟩ = nmE := by decide +kernel

/-- the law's text: true -/
theorem ltext_yes (u : U) (s : ByteArray) (w : World) (h : vB u = true) (ht : textB u = s) (hL : LayU w) : Calls Tryd.prog 18 #[uV u, .string s] w fun e w' => e = .returned (.bool true) ∧ Below w.heap.size w w' := by
  subst ht
  have HT := hid (fun w (hL : LayU w) => text_good u w h hL.lay hL.names)
  have HL := hid hL
  clear hL
  unfold uV at *
  go_enter Tryd.func18, Tryd.ntmps18
  go_wp2_with fail
  refine (HT.out _ (HL.out.below (below_alloc w _))).mono ?_
  rintro e w' ⟨rfl, hB⟩
  go_wp2_with fail
  go_ret
  exact ⟨ret_bool (by first | rfl | simp), unalloc hB⟩

set_option maxHeartbeats 4000000 in
set_option maxRecDepth 100000 in
theorem head_any (w : World) (hL : LayU w) : Calls Tryd.prog 8 #[] w fun e w' => e = .returned (.bool true) ∧ Below w.heap.size w w' := by
  have HL := hid hL
  clear hL
  have HM := hid (fun w => mul_eq h1 w)
  have HP := hid (fun w => pow_eq h2 w)
  have HQ := hid (fun w => pow_eq h3 w)
  have HR := hid (fun w hL => parse_eq (s := sSC) (by decide) h4 w hL)
  have HS := hid (fun w hL => parse_eq (s := sC1) (by decide) h5 w hL)
  have HT := hid (fun w hL => parse_eq (s := ⟨#[]⟩) (by decide) h6 w hL)
  have HU := hid (fun w hL => parse_eq (s := sC2S) (by decide) h7 w hL)
  have HV := hid (fun w hL => ltext_yes ⟨2, 0, -1⟩ sC2S w rfl h8 hL)
  have HW := hid (fun w hL => ltext_yes u0 ⟨#[49]⟩ w rfl h9 hL)
  have HX := hid (fun w hL => ltext_yes ⟨0, 1, 0⟩ nmE w rfl h10 hL)
  unfold uV u0 sSC sC1 sC2S nmE at *
  dsimp only at *
  go_enter Tryd.func8, Tryd.ntmps8
  go_wp2_with fail
  have hh : Un (w.alloc (Obj.cells #[Value.int .i64 2, Value.int .i64 0, Value.int .i64 (-1)] 23)) [(w.heap.size, ⟨2, 0, -1⟩)] := (Un.nil w).new ⟨2, 0, -1⟩
  have hB := below_alloc w (Obj.cells #[Value.int .i64 2, Value.int .i64 0, Value.int .i64 (-1)] 23)
  refine (HM.out _).mono ?_
  rintro e w1 ⟨rfl, hB1⟩
  replace hh : Un (w1.alloc (Obj.cells #[Value.int .i64 0, Value.int .i64 0, Value.int .i64 0] 23)) [(w1.heap.size, ⟨0, 0, 0⟩), (w.heap.size, ⟨2, 0, -1⟩)] := (hh.below hB1).new ⟨0, 0, 0⟩
  replace hB := (hB.trans (hB1.mono hB.size)).alloc (by have := hB.size; have := hB1.size; omega) (Obj.cells #[Value.int .i64 0, Value.int .i64 0, Value.int .i64 0] 23)
  clear hB1
  obtain ⟨x1a, x1b, x1c⟩ := (hh.get 1 _ _ rfl).three
  dsimp only at x1a x1b x1c
  go_wp2_with fail
  clear x1a x1b x1c
  refine (HP.out _).mono ?_
  rintro e w2 ⟨rfl, hB1⟩
  replace hh : Un (w2.alloc (Obj.cells #[Value.int .i64 (-8), Value.int .i64 0, Value.int .i64 4] 23)) [(w2.heap.size, ⟨-8, 0, 4⟩), (w1.heap.size, ⟨0, 0, 0⟩), (w.heap.size, ⟨2, 0, -1⟩)] := (hh.below hB1).new ⟨-8, 0, 4⟩
  replace hB := (hB.trans (hB1.mono hB.size)).alloc (by have := hB.size; have := hB1.size; omega) (Obj.cells #[Value.int .i64 (-8), Value.int .i64 0, Value.int .i64 4] 23)
  clear hB1
  obtain ⟨x0a, x0b, x0c⟩ := (hh.get 0 _ _ rfl).three
  obtain ⟨x2a, x2b, x2c⟩ := (hh.get 2 _ _ rfl).three
  dsimp only at x0a x0b x0c x2a x2b x2c
  go_wp2_with fail
  clear x0a x0b x0c x2a x2b x2c
  refine (HQ.out _).mono ?_
  rintro e w3 ⟨rfl, hB1⟩
  replace hh : Un (w3.alloc (Obj.cells #[Value.int .i64 0, Value.int .i64 0, Value.int .i64 0] 23)) [(w3.heap.size, ⟨0, 0, 0⟩), (w2.heap.size, ⟨-8, 0, 4⟩), (w1.heap.size, ⟨0, 0, 0⟩), (w.heap.size, ⟨2, 0, -1⟩)] := (hh.below hB1).new ⟨0, 0, 0⟩
  replace hB := (hB.trans (hB1.mono hB.size)).alloc (by have := hB.size; have := hB1.size; omega) (Obj.cells #[Value.int .i64 0, Value.int .i64 0, Value.int .i64 0] 23)
  clear hB1
  obtain ⟨x1a, x1b, x1c⟩ := (hh.get 1 _ _ rfl).three
  obtain ⟨x3a, x3b, x3c⟩ := (hh.get 3 _ _ rfl).three
  dsimp only at x1a x1b x1c x3a x3b x3c
  go_wp2_with fail
  clear x1a x1b x1c x3a x3b x3c
  refine (HR.out _ (HL.out.below hB)).mono ?_
  rintro e w4 ⟨rfl, hB1⟩
  replace hh : Un (w4.alloc (Obj.cells #[Value.int .i64 0, Value.int .i64 0, Value.int .i64 0] 23)) [(w4.heap.size, ⟨0, 0, 0⟩), (w3.heap.size, ⟨0, 0, 0⟩), (w2.heap.size, ⟨-8, 0, 4⟩), (w1.heap.size, ⟨0, 0, 0⟩), (w.heap.size, ⟨2, 0, -1⟩)] := (hh.below hB1).new ⟨0, 0, 0⟩
  replace hB := (hB.trans (hB1.mono hB.size)).alloc (by have := hB.size; have := hB1.size; omega) (Obj.cells #[Value.int .i64 0, Value.int .i64 0, Value.int .i64 0] 23)
  clear hB1
  obtain ⟨x2a, x2b, x2c⟩ := (hh.get 2 _ _ rfl).three
  obtain ⟨x4a, x4b, x4c⟩ := (hh.get 4 _ _ rfl).three
  dsimp only at x2a x2b x2c x4a x4b x4c
  go_wp2_with fail
  clear x2a x2b x2c x4a x4b x4c
  refine (HS.out _ (HL.out.below hB)).mono ?_
  rintro e w5 ⟨rfl, hB1⟩
  replace hh : Un (w5.alloc (Obj.cells #[Value.int .i64 0, Value.int .i64 0, Value.int .i64 0] 23)) [(w5.heap.size, ⟨0, 0, 0⟩), (w4.heap.size, ⟨0, 0, 0⟩), (w3.heap.size, ⟨0, 0, 0⟩), (w2.heap.size, ⟨-8, 0, 4⟩), (w1.heap.size, ⟨0, 0, 0⟩), (w.heap.size, ⟨2, 0, -1⟩)] := (hh.below hB1).new ⟨0, 0, 0⟩
  replace hB := (hB.trans (hB1.mono hB.size)).alloc (by have := hB.size; have := hB1.size; omega) (Obj.cells #[Value.int .i64 0, Value.int .i64 0, Value.int .i64 0] 23)
  clear hB1
  obtain ⟨x3a, x3b, x3c⟩ := (hh.get 3 _ _ rfl).three
  obtain ⟨x5a, x5b, x5c⟩ := (hh.get 5 _ _ rfl).three
  dsimp only at x3a x3b x3c x5a x5b x5c
  go_wp2_with fail
  clear x3a x3b x3c x5a x5b x5c
  refine (HT.out _ (HL.out.below hB)).mono ?_
  rintro e w6 ⟨rfl, hB1⟩
  replace hh : Un (w6.alloc (Obj.cells #[Value.int .i64 0, Value.int .i64 0, Value.int .i64 0] 23)) [(w6.heap.size, ⟨0, 0, 0⟩), (w5.heap.size, ⟨0, 0, 0⟩), (w4.heap.size, ⟨0, 0, 0⟩), (w3.heap.size, ⟨0, 0, 0⟩), (w2.heap.size, ⟨-8, 0, 4⟩), (w1.heap.size, ⟨0, 0, 0⟩), (w.heap.size, ⟨2, 0, -1⟩)] := (hh.below hB1).new ⟨0, 0, 0⟩
  replace hB := (hB.trans (hB1.mono hB.size)).alloc (by have := hB.size; have := hB1.size; omega) (Obj.cells #[Value.int .i64 0, Value.int .i64 0, Value.int .i64 0] 23)
  clear hB1
  obtain ⟨x4a, x4b, x4c⟩ := (hh.get 4 _ _ rfl).three
  obtain ⟨x6a, x6b, x6c⟩ := (hh.get 6 _ _ rfl).three
  dsimp only at x4a x4b x4c x6a x6b x6c
  go_wp2_with fail
  clear x4a x4b x4c x6a x6b x6c
  refine (HU.out _ (HL.out.below hB)).mono ?_
  rintro e w7 ⟨rfl, hB1⟩
  replace hh : Un (w7.alloc (Obj.cells #[Value.int .i64 2, Value.int .i64 0, Value.int .i64 (-1)] 23)) [(w7.heap.size, ⟨2, 0, -1⟩), (w6.heap.size, ⟨0, 0, 0⟩), (w5.heap.size, ⟨0, 0, 0⟩), (w4.heap.size, ⟨0, 0, 0⟩), (w3.heap.size, ⟨0, 0, 0⟩), (w2.heap.size, ⟨-8, 0, 4⟩), (w1.heap.size, ⟨0, 0, 0⟩), (w.heap.size, ⟨2, 0, -1⟩)] := (hh.below hB1).new ⟨2, 0, -1⟩
  replace hB := (hB.trans (hB1.mono hB.size)).alloc (by have := hB.size; have := hB1.size; omega) (Obj.cells #[Value.int .i64 2, Value.int .i64 0, Value.int .i64 (-1)] 23)
  clear hB1
  obtain ⟨x0a, x0b, x0c⟩ := (hh.get 0 _ _ rfl).three
  obtain ⟨x5a, x5b, x5c⟩ := (hh.get 5 _ _ rfl).three
  obtain ⟨x7a, x7b, x7c⟩ := (hh.get 7 _ _ rfl).three
  dsimp only at x0a x0b x0c x5a x5b x5c x7a x7b x7c
  go_wp2_with fail
  clear x0a x0b x0c x5a x5b x5c x7a x7b x7c
  refine (HV.out _ (HL.out.below hB)).mono ?_
  rintro e w8 ⟨rfl, hB1⟩
  replace hh := hh.below hB1
  replace hB := hB.trans (hB1.mono hB.size)
  clear hB1
  obtain ⟨x0a, x0b, x0c⟩ := (hh.get 0 _ _ rfl).three
  obtain ⟨x5a, x5b, x5c⟩ := (hh.get 5 _ _ rfl).three
  obtain ⟨x7a, x7b, x7c⟩ := (hh.get 7 _ _ rfl).three
  dsimp only at x0a x0b x0c x5a x5b x5c x7a x7b x7c
  go_wp2_with fail
  clear x0a x0b x0c x5a x5b x5c x7a x7b x7c
  refine (HW.out _ (HL.out.below hB)).mono ?_
  rintro e w9 ⟨rfl, hB1⟩
  replace hh := hh.below hB1
  replace hB := hB.trans (hB1.mono hB.size)
  clear hB1
  obtain ⟨x0a, x0b, x0c⟩ := (hh.get 0 _ _ rfl).three
  obtain ⟨x5a, x5b, x5c⟩ := (hh.get 5 _ _ rfl).three
  obtain ⟨x7a, x7b, x7c⟩ := (hh.get 7 _ _ rfl).three
  dsimp only at x0a x0b x0c x5a x5b x5c x7a x7b x7c
  go_wp2_with fail
  clear x0a x0b x0c x5a x5b x5c x7a x7b x7c
  refine (HX.out _ (HL.out.below hB)).mono ?_
  rintro e w10 ⟨rfl, hB1⟩
  replace hh := hh.below hB1
  replace hB := hB.trans (hB1.mono hB.size)
  clear hB1
  obtain ⟨x0a, x0b, x0c⟩ := (hh.get 0 _ _ rfl).three
  obtain ⟨x5a, x5b, x5c⟩ := (hh.get 5 _ _ rfl).three
  obtain ⟨x7a, x7b, x7c⟩ := (hh.get 7 _ _ rfl).three
  dsimp only at x0a x0b x0c x5a x5b x5c x7a x7b x7c
  go_wp2_with fail
  clear x0a x0b x0c x5a x5b x5c x7a x7b x7c
  go_ret
  exact ⟨ret_bool (by first | rfl | simp), hB⟩
end Go.Proofs.YtmfoincmjpogmaaDoor
