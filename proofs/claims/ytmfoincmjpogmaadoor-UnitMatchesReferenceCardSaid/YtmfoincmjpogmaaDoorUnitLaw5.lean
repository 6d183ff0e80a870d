/- unit: the statement UnitMatchesReference -/
import Derived.Test.YtmfoincmjpogmaaDoorUnitRef4
namespace Go.Proofs.YtmfoincmjpogmaaDoor
open Go.RowKit

theorem two_unitsM (a b : U) (w : World) : ∃ w0 : World, ((w.alloc (.cells #[.int .i64 a.a, .int .i64 a.b, .int .i64 a.c] 23)).alloc (.cells #[.int .i64 b.a, .int .i64 b.b, .int .i64 b.c] 23)) = w0 ∧ Un w0 [(w.heap.size + 1, b), (w.heap.size, a)] ∧ Below w.heap.size w w0 := by
  refine ⟨_, rfl, ?_, (below_alloc w _).alloc (by simp) _⟩
  have := ((Un.nil w).new a).new b
  rw [World.size_alloc] at this
  exact this
theorem texts_same (u : U) : ∃ T I, (∀ w, LayU w → Calls Tryd.prog 13 #[uV u] w fun e w' => e = .returned (.tuple #[.string T, .int .i64 I]) ∧ Below w.heap.size w w') ∧
    (∀ w, Calls Tryd.prog 14 #[uV u] w fun e w' => e = .returned (.tuple #[.string T, .int .i64 I]) ∧ Below w.heap.size w w') := by
  cases hv : vB u with
  | true => exact ⟨textB u, 0, fun w hL => text_good u w hv hL.lay hL.names, fun w => rtext_good u w hv⟩
  | false => exact ⟨⟨#[]⟩, 1, fun w _ => text_bad u w hv, fun w => rtext_bad u w hv⟩
theorem rmul_eq {u v x : U} {e : Int} (h : mulU u v = x ∧ mulE u v = e) (w : World) : Calls Tryd.prog 10 #[uV u, uV v] w fun en w' => en = .returned (.tuple #[uV x, .int .i64 e]) ∧ Below w.heap.size w w' := by
  obtain ⟨rfl, rfl⟩ := h; exact rmul_any u v w
theorem rpow_eq {u x : U} {n e : Int} (h : powR u n = (x, e)) (w : World) : Calls Tryd.prog 12 #[uV u, .int .i64 n] w fun en w' => en = .returned (.tuple #[uV x, .int .i64 e]) ∧ Below w.heap.size w w' := by
  have := rpow_any u n w
  rw [h] at this; exact this
theorem rparse_eq {s : ByteArray} {x : U} {e : Int} (hs : s.size ≤ 100000) (h : parseU s.data.toList = x ∧ parseE s.data.toList = e) (w : World) : Calls Tryd.prog 16 #[.string s] w fun en w' => en = .returned (.tuple #[uV x, .int .i64 e]) ∧ Below w.heap.size w w' := by
  obtain ⟨rfl, rfl⟩ := h; exact rparse_any s w hs
set_option maxHeartbeats 4000000 in
set_option maxRecDepth 100000 in
theorem match_long (a b : U) (n : Int) (s : ByteArray) (w : World) (hL : LayU w) (hs : 200 < s.size) : Calls Tryd.prog 3 #[uV a, uV b, .int .i64 n, .string s] w fun e w' => e = .returned (.bool true) ∧ Below w.heap.size w w' := by
  have HL := hid hL
  clear hL
  have HH := hid (fun w (hL : LayU w) => head_any w hL)
  unfold uV at *
  try dsimp only [addU, sclU, u0] at *
  go_enter Tryd.func3, Tryd.ntmps3
  go_wp2_with fail
  obtain ⟨w0, hw0, hh, hB⟩ := two_unitsM a b w
  rw [hw0]
  clear hw0
  refine (HH.out _ (HL.out.below hB)).mono ?_
  rintro e w1 ⟨rfl, hB1⟩
  replace hh := hh.below hB1
  replace hB := hB.trans (hB1.mono hB.size)
  clear hB1
  obtain ⟨x0a, x0b, x0c⟩ := (hh.get 0 _ _ rfl).three
  obtain ⟨x1a, x1b, x1c⟩ := (hh.get 1 _ _ rfl).three
  try dsimp only [u0, addU, sclU] at x0a x0b x0c x1a x1b x1c
  go_wp2_with fail
  clear x0a x0b x0c x1a x1b x1c
  go_ret
  exact ⟨ret_bool (by first | rfl | simp | (simp [*])), hB⟩
set_option maxHeartbeats 4000000 in
set_option maxRecDepth 100000 in
theorem match_short (a b : U) (n : Int) (s : ByteArray) (w : World) (hL : LayU w) (hs : s.size ≤ 200) : Calls Tryd.prog 3 #[uV a, uV b, .int .i64 n, .string s] w fun e w' => e = .returned (.bool true) ∧ Below w.heap.size w w' := by
  have pe : ∀ (u : U) (n : Int), ∃ x e, powR u n = (x, e) := fun u n => ⟨_, _, rfl⟩
  have me : ∀ (u v : U), ∃ x e, mulU u v = x ∧ mulE u v = e := fun u v => ⟨_, _, rfl, rfl⟩
  obtain ⟨x, e, m1⟩ := me a b
  obtain ⟨y, f, p1⟩ := pe a n
  obtain ⟨t, i, t1, t2⟩ := texts_same a
  obtain ⟨p, k, q1⟩ : ∃ p k, parseU s.data.toList = p ∧ parseE s.data.toList = k := ⟨_, _, rfl, rfl⟩
  have M1 := hid (fun w => mul_eq m1 w)
  have M2 := hid (fun w => rmul_eq m1 w)
  have P1 := hid (fun w => pow_eq p1 w)
  have P2 := hid (fun w => rpow_eq p1 w)
  have T1 := hid t1
  have T2 := hid t2
  have Q1 := hid (fun w hL => parse_eq (s := s) (by omega) q1 w hL)
  have Q2 := hid (fun w => rparse_eq (s := s) (by omega) q1 w)
  clear pe me m1 p1 t1 t2 q1
  have HL := hid hL
  clear hL
  have HH := hid (fun w (hL : LayU w) => head_any w hL)
  unfold uV at *
  try dsimp only [addU, sclU, u0] at *
  go_enter Tryd.func3, Tryd.ntmps3
  go_wp2_with fail
  obtain ⟨w0, hw0, hh, hB⟩ := two_unitsM a b w
  rw [hw0]
  clear hw0
  refine (HH.out _ (HL.out.below hB)).mono ?_
  rintro e w1 ⟨rfl, hB1⟩
  replace hh := hh.below hB1
  replace hB := hB.trans (hB1.mono hB.size)
  clear hB1
  obtain ⟨x0a, x0b, x0c⟩ := (hh.get 0 _ _ rfl).three
  obtain ⟨x1a, x1b, x1c⟩ := (hh.get 1 _ _ rfl).three
  try dsimp only [u0, addU, sclU] at x0a x0b x0c x1a x1b x1c
  go_wp2_with fail
  clear x0a x0b x0c x1a x1b x1c
  refine (M1.out _).mono ?_
  rintro e w2 ⟨rfl, hB1⟩
  replace hh : Un (w2.alloc (Obj.cells #[Value.int .i64 x.a, Value.int .i64 x.b, Value.int .i64 x.c] 23)) [(w2.heap.size, x), (w.heap.size + 1, b), (w.heap.size, a)] := (hh.below hB1).new x
  replace hB := (hB.trans (hB1.mono hB.size)).alloc (by have := hB.size; have := hB1.size; omega) (Obj.cells #[Value.int .i64 x.a, Value.int .i64 x.b, Value.int .i64 x.c] 23)
  clear hB1
  obtain ⟨x1a, x1b, x1c⟩ := (hh.get 1 _ _ rfl).three
  obtain ⟨x2a, x2b, x2c⟩ := (hh.get 2 _ _ rfl).three
  try dsimp only [u0, addU, sclU] at x1a x1b x1c x2a x2b x2c
  go_wp2_with fail
  clear x1a x1b x1c x2a x2b x2c
  refine (M2.out _).mono ?_
  rintro e w3 ⟨rfl, hB1⟩
  replace hh : Un (w3.alloc (Obj.cells #[Value.int .i64 x.a, Value.int .i64 x.b, Value.int .i64 x.c] 23)) [(w3.heap.size, x), (w2.heap.size, x), (w.heap.size + 1, b), (w.heap.size, a)] := (hh.below hB1).new x
  replace hB := (hB.trans (hB1.mono hB.size)).alloc (by have := hB.size; have := hB1.size; omega) (Obj.cells #[Value.int .i64 x.a, Value.int .i64 x.b, Value.int .i64 x.c] 23)
  clear hB1
  obtain ⟨x2a, x2b, x2c⟩ := (hh.get 2 _ _ rfl).three
  obtain ⟨x3a, x3b, x3c⟩ := (hh.get 3 _ _ rfl).three
  try dsimp only [u0, addU, sclU] at x2a x2b x2c x3a x3b x3c
  go_wp2_with fail
  clear x2a x2b x2c x3a x3b x3c
  refine (P1.out _).mono ?_
  rintro e w4 ⟨rfl, hB1⟩
  replace hh : Un (w4.alloc (Obj.cells #[Value.int .i64 y.a, Value.int .i64 y.b, Value.int .i64 y.c] 23)) [(w4.heap.size, y), (w3.heap.size, x), (w2.heap.size, x), (w.heap.size + 1, b), (w.heap.size, a)] := (hh.below hB1).new y
  replace hB := (hB.trans (hB1.mono hB.size)).alloc (by have := hB.size; have := hB1.size; omega) (Obj.cells #[Value.int .i64 y.a, Value.int .i64 y.b, Value.int .i64 y.c] 23)
  clear hB1
  obtain ⟨x3a, x3b, x3c⟩ := (hh.get 3 _ _ rfl).three
  obtain ⟨x4a, x4b, x4c⟩ := (hh.get 4 _ _ rfl).three
  try dsimp only [u0, addU, sclU] at x3a x3b x3c x4a x4b x4c
  go_wp2_with fail
  clear x3a x3b x3c x4a x4b x4c
  refine (P2.out _).mono ?_
  rintro e w5 ⟨rfl, hB1⟩
  replace hh : Un (w5.alloc (Obj.cells #[Value.int .i64 y.a, Value.int .i64 y.b, Value.int .i64 y.c] 23)) [(w5.heap.size, y), (w4.heap.size, y), (w3.heap.size, x), (w2.heap.size, x), (w.heap.size + 1, b), (w.heap.size, a)] := (hh.below hB1).new y
  replace hB := (hB.trans (hB1.mono hB.size)).alloc (by have := hB.size; have := hB1.size; omega) (Obj.cells #[Value.int .i64 y.a, Value.int .i64 y.b, Value.int .i64 y.c] 23)
  clear hB1
  obtain ⟨x4a, x4b, x4c⟩ := (hh.get 4 _ _ rfl).three
  obtain ⟨x5a, x5b, x5c⟩ := (hh.get 5 _ _ rfl).three
  try dsimp only [u0, addU, sclU] at x4a x4b x4c x5a x5b x5c
  go_wp2_with fail
  clear x4a x4b x4c x5a x5b x5c
  refine (T1.out _ (HL.out.below hB)).mono ?_
  rintro e w6 ⟨rfl, hB1⟩
  replace hh := hh.below hB1
  replace hB := hB.trans (hB1.mono hB.size)
  clear hB1
  obtain ⟨x4a, x4b, x4c⟩ := (hh.get 4 _ _ rfl).three
  obtain ⟨x5a, x5b, x5c⟩ := (hh.get 5 _ _ rfl).three
  try dsimp only [u0, addU, sclU] at x4a x4b x4c x5a x5b x5c
  go_wp2_with fail
  clear x4a x4b x4c x5a x5b x5c
  refine (T2.out _).mono ?_
  rintro e w7 ⟨rfl, hB1⟩
  replace hh := hh.below hB1
  replace hB := hB.trans (hB1.mono hB.size)
  clear hB1
  obtain ⟨x4a, x4b, x4c⟩ := (hh.get 4 _ _ rfl).three
  obtain ⟨x5a, x5b, x5c⟩ := (hh.get 5 _ _ rfl).three
  try dsimp only [u0, addU, sclU] at x4a x4b x4c x5a x5b x5c
  go_wp2_with fail
  clear x4a x4b x4c x5a x5b x5c
  refine (Q1.out _ (HL.out.below hB)).mono ?_
  rintro e w8 ⟨rfl, hB1⟩
  replace hh : Un (w8.alloc (Obj.cells #[Value.int .i64 p.a, Value.int .i64 p.b, Value.int .i64 p.c] 23)) [(w8.heap.size, p), (w5.heap.size, y), (w4.heap.size, y), (w3.heap.size, x), (w2.heap.size, x), (w.heap.size + 1, b), (w.heap.size, a)] := (hh.below hB1).new p
  replace hB := (hB.trans (hB1.mono hB.size)).alloc (by have := hB.size; have := hB1.size; omega) (Obj.cells #[Value.int .i64 p.a, Value.int .i64 p.b, Value.int .i64 p.c] 23)
  clear hB1
  obtain ⟨x5a, x5b, x5c⟩ := (hh.get 5 _ _ rfl).three
  obtain ⟨x6a, x6b, x6c⟩ := (hh.get 6 _ _ rfl).three
  try dsimp only [u0, addU, sclU] at x5a x5b x5c x6a x6b x6c
  go_wp2_with fail
  clear x5a x5b x5c x6a x6b x6c
  refine (Q2.out _).mono ?_
  rintro e w9 ⟨rfl, hB1⟩
  replace hh : Un (w9.alloc (Obj.cells #[Value.int .i64 p.a, Value.int .i64 p.b, Value.int .i64 p.c] 23)) [(w9.heap.size, p), (w8.heap.size, p), (w5.heap.size, y), (w4.heap.size, y), (w3.heap.size, x), (w2.heap.size, x), (w.heap.size + 1, b), (w.heap.size, a)] := (hh.below hB1).new p
  replace hB := (hB.trans (hB1.mono hB.size)).alloc (by have := hB.size; have := hB1.size; omega) (Obj.cells #[Value.int .i64 p.a, Value.int .i64 p.b, Value.int .i64 p.c] 23)
  clear hB1
  obtain ⟨x0a, x0b, x0c⟩ := (hh.get 0 _ _ rfl).three
  obtain ⟨x1a, x1b, x1c⟩ := (hh.get 1 _ _ rfl).three
  obtain ⟨x2a, x2b, x2c⟩ := (hh.get 2 _ _ rfl).three
  obtain ⟨x3a, x3b, x3c⟩ := (hh.get 3 _ _ rfl).three
  obtain ⟨x4a, x4b, x4c⟩ := (hh.get 4 _ _ rfl).three
  obtain ⟨x5a, x5b, x5c⟩ := (hh.get 5 _ _ rfl).three
  try dsimp only [u0, addU, sclU] at x0a x0b x0c x1a x1b x1c x2a x2b x2c x3a x3b x3c x4a x4b x4c x5a x5b x5c
  go_wp2_with fail
  go_ret
  exact ⟨ret_bool (by first | rfl | simp | (simp [*])), hB⟩
theorem match_fin (a b : U) (n : Int) (s : ByteArray) (w : World) (_h0 : UnitWf a) (_h1 : UnitWf b) (_h2 : (Lit.int .i64 n).wf = true) (_h3 : s.size ≤ maxLen) (hL : LayU w) : Calls Tryd.prog 3 #[uV a, uV b, .int .i64 n, .string s] w fun e w' => e = .returned (.bool true) ∧ Below w.heap.size w w' := by
  by_cases hs : 200 < s.size
  · exact match_long a b n s w hL hs
  · exact match_short a b n s w hL (by omega)
end Go.Proofs.YtmfoincmjpogmaaDoor
