/- unit: the statement UnitGroup -/
import Derived.Test.YtmfoincmjpogmaaDoorUnitOpen
namespace Go.Proofs.YtmfoincmjpogmaaDoor
open Go.RowKit

theorem three_units (a b c : U) (w : World) : ∃ w0 : World, (((w.alloc (.cells #[.int .i64 a.a, .int .i64 a.b, .int .i64 a.c] 23)).alloc (.cells #[.int .i64 b.a, .int .i64 b.b, .int .i64 b.c] 23)).alloc (.cells #[.int .i64 c.a, .int .i64 c.b, .int .i64 c.c] 23)) = w0 ∧ Un w0 [(w.heap.size + 1 + 1, c), (w.heap.size + 1, b), (w.heap.size, a)] ∧ Below w.heap.size w w0 := by
  refine ⟨_, rfl, ?_, ((below_alloc w _).alloc (by simp) _).alloc (by simp; omega) _⟩
  have := (((Un.nil w).new a).new b).new c
  simp only [World.size_alloc] at this
  exact this
theorem text_ok {u : U} {s : ByteArray} (h : vB u = true) (hs : textB u = s) (w : World) (hL : LayU w) : Calls Tryd.prog 13 #[uV u] w fun e w' => e = .returned (.tuple #[.string s, .int .i64 0]) ∧ Below w.heap.size w w' := by
  subst hs; exact text_good u w h hL.lay hL.names
set_option maxHeartbeats 4000000 in
set_option maxRecDepth 100000 in
theorem group_bad (a b c : U) (w : World) (hL : LayU w) (ha : vB a = false) : Calls Tryd.prog 4 #[uV a, uV b, uV c] w fun e w' => e = .returned (.bool true) ∧ Below w.heap.size w w' := by
  have H1 := hid (fun w => mul_eq (u := a) (v := b) (x := u0) (e := 1) ⟨(mul_arg ha).2, (mul_arg ha).1⟩ w)
  have H2 := hid (fun w => mul_eq (u := b) (v := a) (x := u0) (e := 1) (by rw [(mul_comm b a).1, (mul_comm b a).2]; exact ⟨(mul_arg ha).2, (mul_arg ha).1⟩) w)
  have HT := hid (fun w => text_bad a w ha)
  clear ha
  have HL := hid hL
  clear hL
  have HH := hid (fun w (hL : LayU w) => head_any w hL)
  unfold uV at *
  try dsimp only [addU, sclU, u0] at *
  go_enter Tryd.func4, Tryd.ntmps4
  go_wp2_with fail
  obtain ⟨w0, hw0, hh, hB⟩ := three_units a b c w
  rw [hw0]
  clear hw0
  refine (HH.out _ (HL.out.below hB)).mono ?_
  rintro e w1 ⟨rfl, hB1⟩
  replace hh := hh.below hB1
  replace hB := hB.trans (hB1.mono hB.size)
  clear hB1
  obtain ⟨x0a, x0b, x0c⟩ := (hh.get 0 _ _ rfl).three
  obtain ⟨x1a, x1b, x1c⟩ := (hh.get 1 _ _ rfl).three
  obtain ⟨x2a, x2b, x2c⟩ := (hh.get 2 _ _ rfl).three
  try dsimp only [u0, addU, sclU] at x0a x0b x0c x1a x1b x1c x2a x2b x2c
  go_wp2_with fail
  clear x0a x0b x0c x1a x1b x1c x2a x2b x2c
  refine (H1.out _).mono ?_
  rintro e w2 ⟨rfl, hB1⟩
  replace hh : Un (w2.alloc (Obj.cells #[Value.int .i64 0, Value.int .i64 0, Value.int .i64 0] 23)) [(w2.heap.size, u0), (w.heap.size + 1 + 1, c), (w.heap.size + 1, b), (w.heap.size, a)] := (hh.below hB1).new u0
  replace hB := (hB.trans (hB1.mono hB.size)).alloc (by have := hB.size; have := hB1.size; omega) (Obj.cells #[Value.int .i64 0, Value.int .i64 0, Value.int .i64 0] 23)
  clear hB1
  obtain ⟨x0a, x0b, x0c⟩ := (hh.get 0 _ _ rfl).three
  obtain ⟨x1a, x1b, x1c⟩ := (hh.get 1 _ _ rfl).three
  obtain ⟨x2a, x2b, x2c⟩ := (hh.get 2 _ _ rfl).three
  obtain ⟨x3a, x3b, x3c⟩ := (hh.get 3 _ _ rfl).three
  try dsimp only [u0, addU, sclU] at x0a x0b x0c x1a x1b x1c x2a x2b x2c x3a x3b x3c
  go_wp2_with fail
  clear x0a x0b x0c x1a x1b x1c x2a x2b x2c x3a x3b x3c
  refine (H2.out _).mono ?_
  rintro e w3 ⟨rfl, hB1⟩
  replace hh : Un (w3.alloc (Obj.cells #[Value.int .i64 0, Value.int .i64 0, Value.int .i64 0] 23)) [(w3.heap.size, u0), (w2.heap.size, u0), (w.heap.size + 1 + 1, c), (w.heap.size + 1, b), (w.heap.size, a)] := (hh.below hB1).new u0
  replace hB := (hB.trans (hB1.mono hB.size)).alloc (by have := hB.size; have := hB1.size; omega) (Obj.cells #[Value.int .i64 0, Value.int .i64 0, Value.int .i64 0] 23)
  clear hB1
  obtain ⟨x0a, x0b, x0c⟩ := (hh.get 0 _ _ rfl).three
  obtain ⟨x1a, x1b, x1c⟩ := (hh.get 1 _ _ rfl).three
  obtain ⟨x2a, x2b, x2c⟩ := (hh.get 2 _ _ rfl).three
  obtain ⟨x3a, x3b, x3c⟩ := (hh.get 3 _ _ rfl).three
  obtain ⟨x4a, x4b, x4c⟩ := (hh.get 4 _ _ rfl).three
  try dsimp only [u0, addU, sclU] at x0a x0b x0c x1a x1b x1c x2a x2b x2c x3a x3b x3c x4a x4b x4c
  go_wp2_with fail
  clear x0a x0b x0c x1a x1b x1c x2a x2b x2c x3a x3b x3c x4a x4b x4c
  refine (HT.out _).mono ?_
  rintro e w4 ⟨rfl, hB1⟩
  replace hh := hh.below hB1
  replace hB := hB.trans (hB1.mono hB.size)
  clear hB1
  obtain ⟨x0a, x0b, x0c⟩ := (hh.get 0 _ _ rfl).three
  obtain ⟨x1a, x1b, x1c⟩ := (hh.get 1 _ _ rfl).three
  obtain ⟨x2a, x2b, x2c⟩ := (hh.get 2 _ _ rfl).three
  obtain ⟨x3a, x3b, x3c⟩ := (hh.get 3 _ _ rfl).three
  obtain ⟨x4a, x4b, x4c⟩ := (hh.get 4 _ _ rfl).three
  try dsimp only [u0, addU, sclU] at x0a x0b x0c x1a x1b x1c x2a x2b x2c x3a x3b x3c x4a x4b x4c
  go_wp2_with fail
  clear x0a x0b x0c x1a x1b x1c x2a x2b x2c x3a x3b x3c x4a x4b x4c
  go_ret
  exact ⟨ret_bool (by first | rfl | simp | (simp [*])), hB⟩
set_option maxHeartbeats 4000000 in
set_option maxRecDepth 100000 in
theorem group_good (a b c : U) (w : World) (hL : LayU w) (ha : vB a = true) : Calls Tryd.prog 4 #[uV a, uV b, uV c] w fun e w' => e = .returned (.bool true) ∧ Below w.heap.size w w' := by
  obtain ⟨bk, hbk⟩ : ∃ bk, (powR a (-1)).1 = bk := ⟨_, rfl⟩
  obtain ⟨n1, n2, n3⟩ := pow_neg ha
  obtain ⟨x, hx⟩ : ∃ x, mulU a b = x := ⟨_, rfl⟩
  obtain ⟨e, he⟩ : ∃ x, mulE a b = x := ⟨_, rfl⟩
  obtain ⟨y, hy⟩ : ∃ x, mulU b c = x := ⟨_, rfl⟩
  obtain ⟨j, hj⟩ : ∃ x, mulE b c = x := ⟨_, rfl⟩
  obtain ⟨p, hp⟩ : ∃ u, mulU x c = u := ⟨_, rfl⟩
  obtain ⟨k, hk⟩ : ∃ u, mulE x c = u := ⟨_, rfl⟩
  obtain ⟨q, hq⟩ : ∃ u, mulU a y = u := ⟨_, rfl⟩
  obtain ⟨l, hl⟩ : ∃ u, mulE a y = u := ⟨_, rfl⟩
  obtain ⟨s, hs⟩ : ∃ s, textB a = s := ⟨_, rfl⟩
  have HA := hid (show e = 0 → j = 0 → k = 0 → l = 0 → p = q by
    intro e1 e2 e3 e4
    subst hx he hy hj hp hk hq hl
    exact mul_assoc e1 e2 e3 e4)
  have H1 := hid (fun w => mul_eq ⟨hx, he⟩ w)
  have H2 := hid (fun w => mul_eq (u := b) (v := a) (x := x) (e := e) (by rw [(mul_comm b a).1, (mul_comm b a).2]; exact ⟨hx, he⟩) w)
  have HT := hid (fun w hL => text_ok ha hs w hL)
  have H3 := hid (fun w => mul_eq (u := a) (v := u0) (mul_one ha) w)
  have H4 := hid (fun w => pow_eq (u := a) (n := -1) (x := bk) (e := 0) (Prod.ext hbk n1) w)
  have H5 := hid (fun w => mul_eq (u := a) (v := bk) (x := u0) (e := 0) (by rw [← hbk]; exact ⟨n2, n3⟩) w)
  have H6 := hid (fun w => mul_eq ⟨hy, hj⟩ w)
  have H7 := hid (fun w => mul_eq ⟨hp, hk⟩ w)
  have H8 := hid (fun w => mul_eq ⟨hq, hl⟩ w)
  clear hbk n1 n2 n3 hx he hy hj hp hk hq hl hs ha
  have HL := hid hL
  clear hL
  have HH := hid (fun w (hL : LayU w) => head_any w hL)
  unfold uV at *
  try dsimp only [addU, sclU, u0] at *
  go_enter Tryd.func4, Tryd.ntmps4
  go_wp2_with fail
  obtain ⟨w0, hw0, hh, hB⟩ := three_units a b c w
  rw [hw0]
  clear hw0
  refine (HH.out _ (HL.out.below hB)).mono ?_
  rintro e w1 ⟨rfl, hB1⟩
  replace hh := hh.below hB1
  replace hB := hB.trans (hB1.mono hB.size)
  clear hB1
  obtain ⟨x0a, x0b, x0c⟩ := (hh.get 0 _ _ rfl).three
  obtain ⟨x1a, x1b, x1c⟩ := (hh.get 1 _ _ rfl).three
  obtain ⟨x2a, x2b, x2c⟩ := (hh.get 2 _ _ rfl).three
  try dsimp only [u0, addU, sclU] at x0a x0b x0c x1a x1b x1c x2a x2b x2c
  go_wp2_with fail
  clear x0a x0b x0c x1a x1b x1c x2a x2b x2c
  refine (H1.out _).mono ?_
  rintro e w2 ⟨rfl, hB1⟩
  replace hh : Un (w2.alloc (Obj.cells #[Value.int .i64 x.a, Value.int .i64 x.b, Value.int .i64 x.c] 23)) [(w2.heap.size, x), (w.heap.size + 1 + 1, c), (w.heap.size + 1, b), (w.heap.size, a)] := (hh.below hB1).new x
  replace hB := (hB.trans (hB1.mono hB.size)).alloc (by have := hB.size; have := hB1.size; omega) (Obj.cells #[Value.int .i64 x.a, Value.int .i64 x.b, Value.int .i64 x.c] 23)
  clear hB1
  obtain ⟨x0a, x0b, x0c⟩ := (hh.get 0 _ _ rfl).three
  obtain ⟨x1a, x1b, x1c⟩ := (hh.get 1 _ _ rfl).three
  obtain ⟨x2a, x2b, x2c⟩ := (hh.get 2 _ _ rfl).three
  obtain ⟨x3a, x3b, x3c⟩ := (hh.get 3 _ _ rfl).three
  try dsimp only [u0, addU, sclU] at x0a x0b x0c x1a x1b x1c x2a x2b x2c x3a x3b x3c
  go_wp2_with fail
  clear x0a x0b x0c x1a x1b x1c x2a x2b x2c x3a x3b x3c
  refine (H2.out _).mono ?_
  rintro e w3 ⟨rfl, hB1⟩
  replace hh : Un (w3.alloc (Obj.cells #[Value.int .i64 x.a, Value.int .i64 x.b, Value.int .i64 x.c] 23)) [(w3.heap.size, x), (w2.heap.size, x), (w.heap.size + 1 + 1, c), (w.heap.size + 1, b), (w.heap.size, a)] := (hh.below hB1).new x
  replace hB := (hB.trans (hB1.mono hB.size)).alloc (by have := hB.size; have := hB1.size; omega) (Obj.cells #[Value.int .i64 x.a, Value.int .i64 x.b, Value.int .i64 x.c] 23)
  clear hB1
  obtain ⟨x0a, x0b, x0c⟩ := (hh.get 0 _ _ rfl).three
  obtain ⟨x1a, x1b, x1c⟩ := (hh.get 1 _ _ rfl).three
  obtain ⟨x2a, x2b, x2c⟩ := (hh.get 2 _ _ rfl).three
  obtain ⟨x3a, x3b, x3c⟩ := (hh.get 3 _ _ rfl).three
  obtain ⟨x4a, x4b, x4c⟩ := (hh.get 4 _ _ rfl).three
  try dsimp only [u0, addU, sclU] at x0a x0b x0c x1a x1b x1c x2a x2b x2c x3a x3b x3c x4a x4b x4c
  go_wp2_with fail
  clear x0a x0b x0c x1a x1b x1c x2a x2b x2c x3a x3b x3c x4a x4b x4c
  refine (HT.out _ (HL.out.below hB)).mono ?_
  rintro e w4 ⟨rfl, hB1⟩
  replace hh := hh.below hB1
  replace hB := hB.trans (hB1.mono hB.size)
  clear hB1
  obtain ⟨x0a, x0b, x0c⟩ := (hh.get 0 _ _ rfl).three
  obtain ⟨x1a, x1b, x1c⟩ := (hh.get 1 _ _ rfl).three
  obtain ⟨x2a, x2b, x2c⟩ := (hh.get 2 _ _ rfl).three
  obtain ⟨x3a, x3b, x3c⟩ := (hh.get 3 _ _ rfl).three
  obtain ⟨x4a, x4b, x4c⟩ := (hh.get 4 _ _ rfl).three
  try dsimp only [u0, addU, sclU] at x0a x0b x0c x1a x1b x1c x2a x2b x2c x3a x3b x3c x4a x4b x4c
  go_wp2_with fail
  clear x0a x0b x0c x1a x1b x1c x2a x2b x2c x3a x3b x3c x4a x4b x4c
  refine (H3.out _).mono ?_
  rintro e w5 ⟨rfl, hB1⟩
  replace hh : Un (w5.alloc (Obj.cells #[Value.int .i64 a.a, Value.int .i64 a.b, Value.int .i64 a.c] 23)) [(w5.heap.size, a), (w3.heap.size, x), (w2.heap.size, x), (w.heap.size + 1 + 1, c), (w.heap.size + 1, b), (w.heap.size, a)] := (hh.below hB1).new a
  replace hB := (hB.trans (hB1.mono hB.size)).alloc (by have := hB.size; have := hB1.size; omega) (Obj.cells #[Value.int .i64 a.a, Value.int .i64 a.b, Value.int .i64 a.c] 23)
  clear hB1
  obtain ⟨x0a, x0b, x0c⟩ := (hh.get 0 _ _ rfl).three
  obtain ⟨x1a, x1b, x1c⟩ := (hh.get 1 _ _ rfl).three
  obtain ⟨x2a, x2b, x2c⟩ := (hh.get 2 _ _ rfl).three
  obtain ⟨x3a, x3b, x3c⟩ := (hh.get 3 _ _ rfl).three
  obtain ⟨x4a, x4b, x4c⟩ := (hh.get 4 _ _ rfl).three
  obtain ⟨x5a, x5b, x5c⟩ := (hh.get 5 _ _ rfl).three
  try dsimp only [u0, addU, sclU] at x0a x0b x0c x1a x1b x1c x2a x2b x2c x3a x3b x3c x4a x4b x4c x5a x5b x5c
  go_wp2_with fail
  clear x0a x0b x0c x1a x1b x1c x2a x2b x2c x3a x3b x3c x4a x4b x4c x5a x5b x5c
  refine (H4.out _).mono ?_
  rintro e w6 ⟨rfl, hB1⟩
  replace hh : Un (w6.alloc (Obj.cells #[Value.int .i64 bk.a, Value.int .i64 bk.b, Value.int .i64 bk.c] 23)) [(w6.heap.size, bk), (w5.heap.size, a), (w3.heap.size, x), (w2.heap.size, x), (w.heap.size + 1 + 1, c), (w.heap.size + 1, b), (w.heap.size, a)] := (hh.below hB1).new bk
  replace hB := (hB.trans (hB1.mono hB.size)).alloc (by have := hB.size; have := hB1.size; omega) (Obj.cells #[Value.int .i64 bk.a, Value.int .i64 bk.b, Value.int .i64 bk.c] 23)
  clear hB1
  obtain ⟨x0a, x0b, x0c⟩ := (hh.get 0 _ _ rfl).three
  obtain ⟨x1a, x1b, x1c⟩ := (hh.get 1 _ _ rfl).three
  obtain ⟨x2a, x2b, x2c⟩ := (hh.get 2 _ _ rfl).three
  obtain ⟨x3a, x3b, x3c⟩ := (hh.get 3 _ _ rfl).three
  obtain ⟨x4a, x4b, x4c⟩ := (hh.get 4 _ _ rfl).three
  obtain ⟨x5a, x5b, x5c⟩ := (hh.get 5 _ _ rfl).three
  obtain ⟨x6a, x6b, x6c⟩ := (hh.get 6 _ _ rfl).three
  try dsimp only [u0, addU, sclU] at x0a x0b x0c x1a x1b x1c x2a x2b x2c x3a x3b x3c x4a x4b x4c x5a x5b x5c x6a x6b x6c
  go_wp2_with fail
  clear x0a x0b x0c x1a x1b x1c x2a x2b x2c x3a x3b x3c x4a x4b x4c x5a x5b x5c x6a x6b x6c
  refine (H5.out _).mono ?_
  rintro e w7 ⟨rfl, hB1⟩
  replace hh : Un (w7.alloc (Obj.cells #[Value.int .i64 0, Value.int .i64 0, Value.int .i64 0] 23)) [(w7.heap.size, u0), (w6.heap.size, bk), (w5.heap.size, a), (w3.heap.size, x), (w2.heap.size, x), (w.heap.size + 1 + 1, c), (w.heap.size + 1, b), (w.heap.size, a)] := (hh.below hB1).new u0
  replace hB := (hB.trans (hB1.mono hB.size)).alloc (by have := hB.size; have := hB1.size; omega) (Obj.cells #[Value.int .i64 0, Value.int .i64 0, Value.int .i64 0] 23)
  clear hB1
  obtain ⟨x0a, x0b, x0c⟩ := (hh.get 0 _ _ rfl).three
  obtain ⟨x1a, x1b, x1c⟩ := (hh.get 1 _ _ rfl).three
  obtain ⟨x2a, x2b, x2c⟩ := (hh.get 2 _ _ rfl).three
  obtain ⟨x3a, x3b, x3c⟩ := (hh.get 3 _ _ rfl).three
  obtain ⟨x4a, x4b, x4c⟩ := (hh.get 4 _ _ rfl).three
  obtain ⟨x5a, x5b, x5c⟩ := (hh.get 5 _ _ rfl).three
  obtain ⟨x6a, x6b, x6c⟩ := (hh.get 6 _ _ rfl).three
  obtain ⟨x7a, x7b, x7c⟩ := (hh.get 7 _ _ rfl).three
  try dsimp only [u0, addU, sclU] at x0a x0b x0c x1a x1b x1c x2a x2b x2c x3a x3b x3c x4a x4b x4c x5a x5b x5c x6a x6b x6c x7a x7b x7c
  go_wp2_with fail
  clear x0a x0b x0c x1a x1b x1c x2a x2b x2c x3a x3b x3c x4a x4b x4c x5a x5b x5c x6a x6b x6c x7a x7b x7c
  refine (H6.out _).mono ?_
  rintro e w8 ⟨rfl, hB1⟩
  replace hh : Un (w8.alloc (Obj.cells #[Value.int .i64 y.a, Value.int .i64 y.b, Value.int .i64 y.c] 23)) [(w8.heap.size, y), (w7.heap.size, u0), (w6.heap.size, bk), (w5.heap.size, a), (w3.heap.size, x), (w2.heap.size, x), (w.heap.size + 1 + 1, c), (w.heap.size + 1, b), (w.heap.size, a)] := (hh.below hB1).new y
  replace hB := (hB.trans (hB1.mono hB.size)).alloc (by have := hB.size; have := hB1.size; omega) (Obj.cells #[Value.int .i64 y.a, Value.int .i64 y.b, Value.int .i64 y.c] 23)
  clear hB1
  obtain ⟨x0a, x0b, x0c⟩ := (hh.get 0 _ _ rfl).three
  obtain ⟨x1a, x1b, x1c⟩ := (hh.get 1 _ _ rfl).three
  obtain ⟨x2a, x2b, x2c⟩ := (hh.get 2 _ _ rfl).three
  obtain ⟨x3a, x3b, x3c⟩ := (hh.get 3 _ _ rfl).three
  obtain ⟨x4a, x4b, x4c⟩ := (hh.get 4 _ _ rfl).three
  obtain ⟨x5a, x5b, x5c⟩ := (hh.get 5 _ _ rfl).three
  obtain ⟨x6a, x6b, x6c⟩ := (hh.get 6 _ _ rfl).three
  obtain ⟨x7a, x7b, x7c⟩ := (hh.get 7 _ _ rfl).three
  obtain ⟨x8a, x8b, x8c⟩ := (hh.get 8 _ _ rfl).three
  try dsimp only [u0, addU, sclU] at x0a x0b x0c x1a x1b x1c x2a x2b x2c x3a x3b x3c x4a x4b x4c x5a x5b x5c x6a x6b x6c x7a x7b x7c x8a x8b x8c
  go_wp2_with fail
  clear x0a x0b x0c x1a x1b x1c x2a x2b x2c x3a x3b x3c x4a x4b x4c x5a x5b x5c x6a x6b x6c x7a x7b x7c x8a x8b x8c
  refine (H7.out _).mono ?_
  rintro e w9 ⟨rfl, hB1⟩
  replace hh : Un (w9.alloc (Obj.cells #[Value.int .i64 p.a, Value.int .i64 p.b, Value.int .i64 p.c] 23)) [(w9.heap.size, p), (w8.heap.size, y), (w7.heap.size, u0), (w6.heap.size, bk), (w5.heap.size, a), (w3.heap.size, x), (w2.heap.size, x), (w.heap.size + 1 + 1, c), (w.heap.size + 1, b), (w.heap.size, a)] := (hh.below hB1).new p
  replace hB := (hB.trans (hB1.mono hB.size)).alloc (by have := hB.size; have := hB1.size; omega) (Obj.cells #[Value.int .i64 p.a, Value.int .i64 p.b, Value.int .i64 p.c] 23)
  clear hB1
  obtain ⟨x0a, x0b, x0c⟩ := (hh.get 0 _ _ rfl).three
  obtain ⟨x1a, x1b, x1c⟩ := (hh.get 1 _ _ rfl).three
  obtain ⟨x2a, x2b, x2c⟩ := (hh.get 2 _ _ rfl).three
  obtain ⟨x3a, x3b, x3c⟩ := (hh.get 3 _ _ rfl).three
  obtain ⟨x4a, x4b, x4c⟩ := (hh.get 4 _ _ rfl).three
  obtain ⟨x5a, x5b, x5c⟩ := (hh.get 5 _ _ rfl).three
  obtain ⟨x6a, x6b, x6c⟩ := (hh.get 6 _ _ rfl).three
  obtain ⟨x7a, x7b, x7c⟩ := (hh.get 7 _ _ rfl).three
  obtain ⟨x8a, x8b, x8c⟩ := (hh.get 8 _ _ rfl).three
  obtain ⟨x9a, x9b, x9c⟩ := (hh.get 9 _ _ rfl).three
  try dsimp only [u0, addU, sclU] at x0a x0b x0c x1a x1b x1c x2a x2b x2c x3a x3b x3c x4a x4b x4c x5a x5b x5c x6a x6b x6c x7a x7b x7c x8a x8b x8c x9a x9b x9c
  go_wp2_with fail
  clear x0a x0b x0c x1a x1b x1c x2a x2b x2c x3a x3b x3c x4a x4b x4c x5a x5b x5c x6a x6b x6c x7a x7b x7c x8a x8b x8c x9a x9b x9c
  refine (H8.out _).mono ?_
  rintro e w10 ⟨rfl, hB1⟩
  replace hh : Un (w10.alloc (Obj.cells #[Value.int .i64 q.a, Value.int .i64 q.b, Value.int .i64 q.c] 23)) [(w10.heap.size, q), (w9.heap.size, p), (w8.heap.size, y), (w7.heap.size, u0), (w6.heap.size, bk), (w5.heap.size, a), (w3.heap.size, x), (w2.heap.size, x), (w.heap.size + 1 + 1, c), (w.heap.size + 1, b), (w.heap.size, a)] := (hh.below hB1).new q
  replace hB := (hB.trans (hB1.mono hB.size)).alloc (by have := hB.size; have := hB1.size; omega) (Obj.cells #[Value.int .i64 q.a, Value.int .i64 q.b, Value.int .i64 q.c] 23)
  clear hB1
  obtain ⟨x0a, x0b, x0c⟩ := (hh.get 0 _ _ rfl).three
  obtain ⟨x1a, x1b, x1c⟩ := (hh.get 1 _ _ rfl).three
  obtain ⟨x2a, x2b, x2c⟩ := (hh.get 2 _ _ rfl).three
  obtain ⟨x3a, x3b, x3c⟩ := (hh.get 3 _ _ rfl).three
  obtain ⟨x4a, x4b, x4c⟩ := (hh.get 4 _ _ rfl).three
  obtain ⟨x5a, x5b, x5c⟩ := (hh.get 5 _ _ rfl).three
  obtain ⟨x6a, x6b, x6c⟩ := (hh.get 6 _ _ rfl).three
  obtain ⟨x7a, x7b, x7c⟩ := (hh.get 7 _ _ rfl).three
  obtain ⟨x8a, x8b, x8c⟩ := (hh.get 8 _ _ rfl).three
  obtain ⟨x9a, x9b, x9c⟩ := (hh.get 9 _ _ rfl).three
  obtain ⟨x10a, x10b, x10c⟩ := (hh.get 10 _ _ rfl).three
  try dsimp only [u0, addU, sclU] at x0a x0b x0c x1a x1b x1c x2a x2b x2c x3a x3b x3c x4a x4b x4c x5a x5b x5c x6a x6b x6c x7a x7b x7c x8a x8b x8c x9a x9b x9c x10a x10b x10c
  by_cases he : e = 0
  · by_cases hj : j = 0
    · by_cases hk : k = 0
      · by_cases hl : l = 0
        · obtain rfl := HA.out he hj hk hl
          subst he hj hk hl
          go_wp2_with fail
          go_ret
          exact ⟨ret_bool (by first | rfl | simp), hB⟩
        · have hl' : (l == 0) = false := by simpa using hl
          subst he hj hk
          go_wp2_with fail
          go_ret
          exact ⟨ret_bool (by first | rfl | simp), hB⟩
      · subst he hj
        go_wp2_with fail
        go_ret
        exact ⟨ret_bool (by first | rfl | simp), hB⟩
    · subst he
      go_wp2_with fail
      go_ret
      exact ⟨ret_bool (by first | rfl | simp), hB⟩
  · go_wp2_with fail
    go_ret
    exact ⟨ret_bool (by first | rfl | simp), hB⟩
theorem group_fin (a b c : U) (w : World) (_h0 : UnitWf a) (_h1 : UnitWf b) (_h2 : UnitWf c) (hL : LayU w) : Calls Tryd.prog 4 #[uV a, uV b, uV c] w fun e w' => e = .returned (.bool true) ∧ Below w.heap.size w w' := by
  cases ha : vB a with
  | false => exact group_bad a b c w hL ha
  | true => exact group_good a b c w hL ha
end Go.Proofs.YtmfoincmjpogmaaDoor
