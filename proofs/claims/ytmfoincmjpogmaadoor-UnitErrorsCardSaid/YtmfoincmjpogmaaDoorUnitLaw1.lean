/- unit: the statement UnitErrors -/
import Derived.Test.YtmfoincmjpogmaaDoorUnitHead
namespace Go.Proofs.YtmfoincmjpogmaaDoor
open Go.RowKit

theorem max3_run (a b c : Int) (w : World) : (Builtin.max_ #[3, 3, 3] 3 #[Value.int .i64 a, Value.int .i64 b, Value.int .i64 c]).run Tryd.prog w = .ok (.int .i64 (max a (max b c))) w := by
  have e : (Builtin.max_ #[3, 3, 3] 3 #[Value.int .i64 a, Value.int .i64 b, Value.int .i64 c]).run Tryd.prog w = .ok (.int .i64 (if c > (if b > a then b else a) then c else (if b > a then b else a))) w := rfl
  rw [e]
  have e2 : (if c > (if b > a then b else a) then c else (if b > a then b else a)) = max a (max b c) := by
    split <;> split at * <;> omega
  rw [e2]
theorem min3_run (a b c : Int) (w : World) : (Builtin.min_ #[3, 3, 3] 3 #[Value.int .i64 a, Value.int .i64 b, Value.int .i64 c]).run Tryd.prog w = .ok (.int .i64 (min a (min b c))) w := by
  have e : (Builtin.min_ #[3, 3, 3] 3 #[Value.int .i64 a, Value.int .i64 b, Value.int .i64 c]).run Tryd.prog w = .ok (.int .i64 (if c < (if b < a then b else a) then c else (if b < a then b else a))) w := rfl
  rw [e]
  have e2 : (if c < (if b < a then b else a) then c else (if b < a then b else a)) = min a (min b c) := by
    split <;> split at * <;> omega
  rw [e2]
theorem within_any (a b c : Int) (w : World) : Calls Tryd.prog 17 #[.int .i64 a, .int .i64 b, .int .i64 c] w fun e w' => e = .returned (.bool (vB ⟨a, b, c⟩)) ∧ w = w' := by
  have h1 := max3_run a b c
  have h2 := min3_run a b c
  have hv : vB ⟨a, b, c⟩ = (decide (max a (max b c) ≤ 8) && decide (-8 ≤ min a (min b c))) := by
    rw [Bool.eq_iff_iff, vB_iff, Bool.and_eq_true, decide_eq_true_eq, decide_eq_true_eq]; dsimp only; omega
  rw [hv]
  clear hv
  generalize max a (max b c) = x at *
  generalize min a (min b c) = y at *
  by_cases hx : x ≤ 8
  · by_cases hy : -8 ≤ y
    · go_enter Tryd.func17, Tryd.ntmps17
      go_wp2_with fail
      go_ret
      exact ⟨ret_bool (by simp [hx, hy]), rfl⟩
    · go_enter Tryd.func17, Tryd.ntmps17
      go_wp2_with fail
      go_ret
      exact ⟨ret_bool (by simp [hx, hy]), rfl⟩
  · go_enter Tryd.func17, Tryd.ntmps17
    go_wp2_with fail
    go_ret
    exact ⟨ret_bool (by rw [decide_eq_false (by omega)]; rfl), rfl⟩
--BEGIN
theorem two_units (a b : U) (w : World) : ∃ w0 : World, ((w.alloc (.cells #[.int .i64 a.a, .int .i64 a.b, .int .i64 a.c] 23)).alloc (.cells #[.int .i64 b.a, .int .i64 b.b, .int .i64 b.c] 23)) = w0 ∧ Un w0 [(w.heap.size + 1, b), (w.heap.size, a)] ∧ Below w.heap.size w w0 := by
  refine ⟨_, rfl, ?_, (below_alloc w _).alloc (by simp) _⟩
  have := ((Un.nil w).new a).new b
  rw [World.size_alloc] at this
  exact this
theorem within_is {a b c : Int} {r : Bool} (h : vB ⟨a, b, c⟩ = r) (w : World) : Calls Tryd.prog 17 #[.int .i64 a, .int .i64 b, .int .i64 c] w fun e w' => e = .returned (.bool r) ∧ w = w' := by
  subst h; exact within_any a b c w
set_option maxHeartbeats 4000000 in
set_option maxRecDepth 100000 in
theorem errors_a (a b : U) (w : World) (hL : LayU w) (ha : vB a = false) : Calls Tryd.prog 7 #[uV a, uV b] w fun e w' => e = .returned (.bool true) ∧ Below w.heap.size w w' := by
  have H1 := hid (fun w => within_is (a := a.a) (b := a.b) (c := a.c) ha w)
  clear ha
  have HL := hid hL
  clear hL
  have HH := hid (fun w (hL : LayU w) => head_any w hL)
  unfold uV at *
  try dsimp only [addU, sclU, u0] at *
  go_enter Tryd.func7, Tryd.ntmps7
  go_wp2_with fail
  obtain ⟨w0, hw0, hh, hB⟩ := two_units a b w
  rw [hw0]
  clear hw0
  refine (HH.out _ (HL.out.below hB)).mono ?_
  rintro e w1 ⟨rfl, hB1⟩
  replace hh := hh.below hB1
  replace hB := hB.trans (hB1.mono hB.size)
  clear hB1
  obtain ⟨x0a, x0b, x0c⟩ := (hh.get 0 _ _ rfl).three
  obtain ⟨x1a, x1b, x1c⟩ := (hh.get 1 _ _ rfl).three
  try dsimp only [u0, addU, sclU] at x0a x0b x0c x1a x1b x1c
  go_wp2_with fail
  clear x0a x0b x0c x1a x1b x1c
  refine (H1.out _).mono ?_
  rintro e w2 ⟨rfl, rfl⟩
  obtain ⟨x0a, x0b, x0c⟩ := (hh.get 0 _ _ rfl).three
  obtain ⟨x1a, x1b, x1c⟩ := (hh.get 1 _ _ rfl).three
  try dsimp only [u0, addU, sclU] at x0a x0b x0c x1a x1b x1c
  go_wp2_with fail
  clear x0a x0b x0c x1a x1b x1c
  go_ret
  exact ⟨ret_bool (by first | rfl | simp | (simp [*])), hB⟩
set_option maxHeartbeats 4000000 in
set_option maxRecDepth 100000 in
theorem errors_b (a b : U) (w : World) (hL : LayU w) (ha : vB a = true) (hb : vB b = false) : Calls Tryd.prog 7 #[uV a, uV b] w fun e w' => e = .returned (.bool true) ∧ Below w.heap.size w w' := by
  have H1 := hid (fun w => within_is (a := a.a) (b := a.b) (c := a.c) ha w)
  have H2 := hid (fun w => within_is (a := b.a) (b := b.b) (c := b.c) hb w)
  clear ha hb
  have HL := hid hL
  clear hL
  have HH := hid (fun w (hL : LayU w) => head_any w hL)
  unfold uV at *
  try dsimp only [addU, sclU, u0] at *
  go_enter Tryd.func7, Tryd.ntmps7
  go_wp2_with fail
  obtain ⟨w0, hw0, hh, hB⟩ := two_units a b w
  rw [hw0]
  clear hw0
  refine (HH.out _ (HL.out.below hB)).mono ?_
  rintro e w1 ⟨rfl, hB1⟩
  replace hh := hh.below hB1
  replace hB := hB.trans (hB1.mono hB.size)
  clear hB1
  obtain ⟨x0a, x0b, x0c⟩ := (hh.get 0 _ _ rfl).three
  obtain ⟨x1a, x1b, x1c⟩ := (hh.get 1 _ _ rfl).three
  try dsimp only [u0, addU, sclU] at x0a x0b x0c x1a x1b x1c
  go_wp2_with fail
  clear x0a x0b x0c x1a x1b x1c
  refine (H1.out _).mono ?_
  rintro e w2 ⟨rfl, rfl⟩
  obtain ⟨x0a, x0b, x0c⟩ := (hh.get 0 _ _ rfl).three
  obtain ⟨x1a, x1b, x1c⟩ := (hh.get 1 _ _ rfl).three
  try dsimp only [u0, addU, sclU] at x0a x0b x0c x1a x1b x1c
  go_wp2_with fail
  clear x0a x0b x0c x1a x1b x1c
  refine (H2.out _).mono ?_
  rintro e w3 ⟨rfl, rfl⟩
  obtain ⟨x0a, x0b, x0c⟩ := (hh.get 0 _ _ rfl).three
  obtain ⟨x1a, x1b, x1c⟩ := (hh.get 1 _ _ rfl).three
  try dsimp only [u0, addU, sclU] at x0a x0b x0c x1a x1b x1c
  go_wp2_with fail
  clear x0a x0b x0c x1a x1b x1c
  go_ret
  exact ⟨ret_bool (by first | rfl | simp | (simp [*])), hB⟩
set_option maxHeartbeats 4000000 in
set_option maxRecDepth 100000 in
theorem errors_yy (a b : U) (w : World) (hL : LayU w) (ha : vB a = true) (hb : vB b = true) (hs : vB (addU a b) = true) (hp : vB (sclU a 2) = true) : Calls Tryd.prog 7 #[uV a, uV b] w fun e w' => e = .returned (.bool true) ∧ Below w.heap.size w w' := by
  have H1 := hid (fun w => within_is (a := a.a) (b := a.b) (c := a.c) ha w)
  have H2 := hid (fun w => within_is (a := b.a) (b := b.b) (c := b.c) hb w)
  have H3 := hid (fun w => within_is (a := a.a + b.a) (b := a.b + b.b) (c := a.c + b.c) hs w)
  have H4 := hid (fun w => within_is (a := 2 * a.a) (b := 2 * a.b) (c := 2 * a.c) (r := true) (by rw [← hp]; unfold sclU; rw [Int.mul_comm 2, Int.mul_comm 2, Int.mul_comm 2]) w)
  have HM := hid (fun w => mul_eq (u := a) (v := b) (x := addU a b) (e := 0) (by unfold mulU mulE; rw [ha, hb, hs]; exact ⟨rfl, rfl⟩) w)
  have HP := hid (fun w => pow_eq (u := a) (n := 2) (x := sclU a 2) (e := 0) (pow_ok ha hp) w)
  obtain ⟨⟨u1, u2⟩, ⟨u3, u4⟩, u5, u6⟩ := (vB_iff a).1 ha
  obtain ⟨⟨v1, v2⟩, ⟨v3, v4⟩, v5, v6⟩ := (vB_iff b).1 hb
  clear ha hb hs hp
  have HL := hid hL
  clear hL
  have HH := hid (fun w (hL : LayU w) => head_any w hL)
  unfold uV at *
  try dsimp only [addU, sclU, u0] at *
  go_enter Tryd.func7, Tryd.ntmps7
  go_wp2_with fail
  obtain ⟨w0, hw0, hh, hB⟩ := two_units a b w
  rw [hw0]
  clear hw0
  refine (HH.out _ (HL.out.below hB)).mono ?_
  rintro e w1 ⟨rfl, hB1⟩
  replace hh := hh.below hB1
  replace hB := hB.trans (hB1.mono hB.size)
  clear hB1
  obtain ⟨x0a, x0b, x0c⟩ := (hh.get 0 _ _ rfl).three
  obtain ⟨x1a, x1b, x1c⟩ := (hh.get 1 _ _ rfl).three
  try dsimp only [u0, addU, sclU] at x0a x0b x0c x1a x1b x1c
  go_wp2_with fail
  clear x0a x0b x0c x1a x1b x1c
  refine (H1.out _).mono ?_
  rintro e w2 ⟨rfl, rfl⟩
  obtain ⟨x0a, x0b, x0c⟩ := (hh.get 0 _ _ rfl).three
  obtain ⟨x1a, x1b, x1c⟩ := (hh.get 1 _ _ rfl).three
  try dsimp only [u0, addU, sclU] at x0a x0b x0c x1a x1b x1c
  go_wp2_with fail
  clear x0a x0b x0c x1a x1b x1c
  refine (H2.out _).mono ?_
  rintro e w3 ⟨rfl, rfl⟩
  obtain ⟨x0a, x0b, x0c⟩ := (hh.get 0 _ _ rfl).three
  obtain ⟨x1a, x1b, x1c⟩ := (hh.get 1 _ _ rfl).three
  try dsimp only [u0, addU, sclU] at x0a x0b x0c x1a x1b x1c
  go_wp2_with fail
  clear x0a x0b x0c x1a x1b x1c
  refine (HM.out _).mono ?_
  rintro e w4 ⟨rfl, hB1⟩
  replace hh : Un (w4.alloc (Obj.cells #[Value.int .i64 (a.a + b.a), Value.int .i64 (a.b + b.b), Value.int .i64 (a.c + b.c)] 23)) [(w4.heap.size, (addU a b)), (w.heap.size + 1, b), (w.heap.size, a)] := (hh.below hB1).new (addU a b)
  replace hB := (hB.trans (hB1.mono hB.size)).alloc (by have := hB.size; have := hB1.size; omega) (Obj.cells #[Value.int .i64 (a.a + b.a), Value.int .i64 (a.b + b.b), Value.int .i64 (a.c + b.c)] 23)
  clear hB1
  obtain ⟨x0a, x0b, x0c⟩ := (hh.get 0 _ _ rfl).three
  obtain ⟨x1a, x1b, x1c⟩ := (hh.get 1 _ _ rfl).three
  obtain ⟨x2a, x2b, x2c⟩ := (hh.get 2 _ _ rfl).three
  try dsimp only [u0, addU, sclU] at x0a x0b x0c x1a x1b x1c x2a x2b x2c
  go_wp2_with fail
  clear x0a x0b x0c x1a x1b x1c x2a x2b x2c
  replace hh : Un ((w4.alloc (Obj.cells #[Value.int .i64 (a.a + b.a), Value.int .i64 (a.b + b.b), Value.int .i64 (a.c + b.c)] 23)).alloc (Obj.cells #[Value.int .i64 (a.a + b.a), Value.int .i64 (a.b + b.b), Value.int .i64 (a.c + b.c)] 23)) [(w4.heap.size + 1, (addU a b)), (w4.heap.size, (addU a b)), (w.heap.size + 1, b), (w.heap.size, a)] := by
    have := hh.new (addU a b)
    rw [World.size_alloc] at this
    exact this
  replace hB := hB.alloc (by have := hB.size; omega) (Obj.cells #[Value.int .i64 (a.a + b.a), Value.int .i64 (a.b + b.b), Value.int .i64 (a.c + b.c)] 23)
  refine (H3.out _).mono ?_
  rintro e w5 ⟨rfl, rfl⟩
  obtain ⟨x0a, x0b, x0c⟩ := (hh.get 0 _ _ rfl).three
  obtain ⟨x1a, x1b, x1c⟩ := (hh.get 1 _ _ rfl).three
  obtain ⟨x2a, x2b, x2c⟩ := (hh.get 2 _ _ rfl).three
  obtain ⟨x3a, x3b, x3c⟩ := (hh.get 3 _ _ rfl).three
  try dsimp only [u0, addU, sclU] at x0a x0b x0c x1a x1b x1c x2a x2b x2c x3a x3b x3c
  go_wp2_with fail
  clear x0a x0b x0c x1a x1b x1c x2a x2b x2c x3a x3b x3c
  refine (HP.out _).mono ?_
  rintro e w6 ⟨rfl, hB1⟩
  replace hh : Un (w6.alloc (Obj.cells #[Value.int .i64 (a.a * 2), Value.int .i64 (a.b * 2), Value.int .i64 (a.c * 2)] 23)) [(w6.heap.size, (sclU a 2)), (w4.heap.size + 1, (addU a b)), (w4.heap.size, (addU a b)), (w.heap.size + 1, b), (w.heap.size, a)] := (hh.below hB1).new (sclU a 2)
  replace hB := (hB.trans (hB1.mono hB.size)).alloc (by have := hB.size; have := hB1.size; omega) (Obj.cells #[Value.int .i64 (a.a * 2), Value.int .i64 (a.b * 2), Value.int .i64 (a.c * 2)] 23)
  clear hB1
  obtain ⟨x0a, x0b, x0c⟩ := (hh.get 0 _ _ rfl).three
  obtain ⟨x1a, x1b, x1c⟩ := (hh.get 1 _ _ rfl).three
  obtain ⟨x2a, x2b, x2c⟩ := (hh.get 2 _ _ rfl).three
  obtain ⟨x3a, x3b, x3c⟩ := (hh.get 3 _ _ rfl).three
  obtain ⟨x4a, x4b, x4c⟩ := (hh.get 4 _ _ rfl).three
  try dsimp only [u0, addU, sclU] at x0a x0b x0c x1a x1b x1c x2a x2b x2c x3a x3b x3c x4a x4b x4c
  go_wp2_with fail
  clear x0a x0b x0c x1a x1b x1c x2a x2b x2c x3a x3b x3c x4a x4b x4c
  refine (H4.out _).mono ?_
  rintro e w7 ⟨rfl, rfl⟩
  obtain ⟨x0a, x0b, x0c⟩ := (hh.get 0 _ _ rfl).three
  obtain ⟨x1a, x1b, x1c⟩ := (hh.get 1 _ _ rfl).three
  obtain ⟨x2a, x2b, x2c⟩ := (hh.get 2 _ _ rfl).three
  obtain ⟨x3a, x3b, x3c⟩ := (hh.get 3 _ _ rfl).three
  obtain ⟨x4a, x4b, x4c⟩ := (hh.get 4 _ _ rfl).three
  try dsimp only [u0, addU, sclU] at x0a x0b x0c x1a x1b x1c x2a x2b x2c x3a x3b x3c x4a x4b x4c
  go_wp2_with fail
  clear x0a x0b x0c x1a x1b x1c x2a x2b x2c x3a x3b x3c x4a x4b x4c
  go_ret
  exact ⟨ret_bool (by first | rfl | simp | (simp [*])), hB⟩
set_option maxHeartbeats 4000000 in
set_option maxRecDepth 100000 in
theorem errors_yn (a b : U) (w : World) (hL : LayU w) (ha : vB a = true) (hb : vB b = true) (hs : vB (addU a b) = true) (hp : vB (sclU a 2) = false) : Calls Tryd.prog 7 #[uV a, uV b] w fun e w' => e = .returned (.bool true) ∧ Below w.heap.size w w' := by
  have H1 := hid (fun w => within_is (a := a.a) (b := a.b) (c := a.c) ha w)
  have H2 := hid (fun w => within_is (a := b.a) (b := b.b) (c := b.c) hb w)
  have H3 := hid (fun w => within_is (a := a.a + b.a) (b := a.b + b.b) (c := a.c + b.c) hs w)
  have H4 := hid (fun w => within_is (a := 2 * a.a) (b := 2 * a.b) (c := 2 * a.c) (r := false) (by rw [← hp]; unfold sclU; rw [Int.mul_comm 2, Int.mul_comm 2, Int.mul_comm 2]) w)
  have HM := hid (fun w => mul_eq (u := a) (v := b) (x := addU a b) (e := 0) (by unfold mulU mulE; rw [ha, hb, hs]; exact ⟨rfl, rfl⟩) w)
  have HP := hid (fun w => pow_eq (u := a) (n := 2) (x := u0) (e := 9) (pow_out ha hp) w)
  obtain ⟨⟨u1, u2⟩, ⟨u3, u4⟩, u5, u6⟩ := (vB_iff a).1 ha
  obtain ⟨⟨v1, v2⟩, ⟨v3, v4⟩, v5, v6⟩ := (vB_iff b).1 hb
  clear ha hb hs hp
  have HL := hid hL
  clear hL
  have HH := hid (fun w (hL : LayU w) => head_any w hL)
  unfold uV at *
  try dsimp only [addU, sclU, u0] at *
  go_enter Tryd.func7, Tryd.ntmps7
  go_wp2_with fail
  obtain ⟨w0, hw0, hh, hB⟩ := two_units a b w
  rw [hw0]
  clear hw0
  refine (HH.out _ (HL.out.below hB)).mono ?_
  rintro e w1 ⟨rfl, hB1⟩
  replace hh := hh.below hB1
  replace hB := hB.trans (hB1.mono hB.size)
  clear hB1
  obtain ⟨x0a, x0b, x0c⟩ := (hh.get 0 _ _ rfl).three
  obtain ⟨x1a, x1b, x1c⟩ := (hh.get 1 _ _ rfl).three
  try dsimp only [u0, addU, sclU] at x0a x0b x0c x1a x1b x1c
  go_wp2_with fail
  clear x0a x0b x0c x1a x1b x1c
  refine (H1.out _).mono ?_
  rintro e w2 ⟨rfl, rfl⟩
  obtain ⟨x0a, x0b, x0c⟩ := (hh.get 0 _ _ rfl).three
  obtain ⟨x1a, x1b, x1c⟩ := (hh.get 1 _ _ rfl).three
  try dsimp only [u0, addU, sclU] at x0a x0b x0c x1a x1b x1c
  go_wp2_with fail
  clear x0a x0b x0c x1a x1b x1c
  refine (H2.out _).mono ?_
  rintro e w3 ⟨rfl, rfl⟩
  obtain ⟨x0a, x0b, x0c⟩ := (hh.get 0 _ _ rfl).three
  obtain ⟨x1a, x1b, x1c⟩ := (hh.get 1 _ _ rfl).three
  try dsimp only [u0, addU, sclU] at x0a x0b x0c x1a x1b x1c
  go_wp2_with fail
  clear x0a x0b x0c x1a x1b x1c
  refine (HM.out _).mono ?_
  rintro e w4 ⟨rfl, hB1⟩
  replace hh : Un (w4.alloc (Obj.cells #[Value.int .i64 (a.a + b.a), Value.int .i64 (a.b + b.b), Value.int .i64 (a.c + b.c)] 23)) [(w4.heap.size, (addU a b)), (w.heap.size + 1, b), (w.heap.size, a)] := (hh.below hB1).new (addU a b)
  replace hB := (hB.trans (hB1.mono hB.size)).alloc (by have := hB.size; have := hB1.size; omega) (Obj.cells #[Value.int .i64 (a.a + b.a), Value.int .i64 (a.b + b.b), Value.int .i64 (a.c + b.c)] 23)
  clear hB1
  obtain ⟨x0a, x0b, x0c⟩ := (hh.get 0 _ _ rfl).three
  obtain ⟨x1a, x1b, x1c⟩ := (hh.get 1 _ _ rfl).three
  obtain ⟨x2a, x2b, x2c⟩ := (hh.get 2 _ _ rfl).three
  try dsimp only [u0, addU, sclU] at x0a x0b x0c x1a x1b x1c x2a x2b x2c
  go_wp2_with fail
  clear x0a x0b x0c x1a x1b x1c x2a x2b x2c
  replace hh : Un ((w4.alloc (Obj.cells #[Value.int .i64 (a.a + b.a), Value.int .i64 (a.b + b.b), Value.int .i64 (a.c + b.c)] 23)).alloc (Obj.cells #[Value.int .i64 (a.a + b.a), Value.int .i64 (a.b + b.b), Value.int .i64 (a.c + b.c)] 23)) [(w4.heap.size + 1, (addU a b)), (w4.heap.size, (addU a b)), (w.heap.size + 1, b), (w.heap.size, a)] := by
    have := hh.new (addU a b)
    rw [World.size_alloc] at this
    exact this
  replace hB := hB.alloc (by have := hB.size; omega) (Obj.cells #[Value.int .i64 (a.a + b.a), Value.int .i64 (a.b + b.b), Value.int .i64 (a.c + b.c)] 23)
  refine (H3.out _).mono ?_
  rintro e w5 ⟨rfl, rfl⟩
  obtain ⟨x0a, x0b, x0c⟩ := (hh.get 0 _ _ rfl).three
  obtain ⟨x1a, x1b, x1c⟩ := (hh.get 1 _ _ rfl).three
  obtain ⟨x2a, x2b, x2c⟩ := (hh.get 2 _ _ rfl).three
  obtain ⟨x3a, x3b, x3c⟩ := (hh.get 3 _ _ rfl).three
  try dsimp only [u0, addU, sclU] at x0a x0b x0c x1a x1b x1c x2a x2b x2c x3a x3b x3c
  go_wp2_with fail
  clear x0a x0b x0c x1a x1b x1c x2a x2b x2c x3a x3b x3c
  refine (HP.out _).mono ?_
  rintro e w6 ⟨rfl, hB1⟩
  replace hh : Un (w6.alloc (Obj.cells #[Value.int .i64 0, Value.int .i64 0, Value.int .i64 0] 23)) [(w6.heap.size, u0), (w4.heap.size + 1, (addU a b)), (w4.heap.size, (addU a b)), (w.heap.size + 1, b), (w.heap.size, a)] := (hh.below hB1).new u0
  replace hB := (hB.trans (hB1.mono hB.size)).alloc (by have := hB.size; have := hB1.size; omega) (Obj.cells #[Value.int .i64 0, Value.int .i64 0, Value.int .i64 0] 23)
  clear hB1
  obtain ⟨x0a, x0b, x0c⟩ := (hh.get 0 _ _ rfl).three
  obtain ⟨x1a, x1b, x1c⟩ := (hh.get 1 _ _ rfl).three
  obtain ⟨x2a, x2b, x2c⟩ := (hh.get 2 _ _ rfl).three
  obtain ⟨x3a, x3b, x3c⟩ := (hh.get 3 _ _ rfl).three
  obtain ⟨x4a, x4b, x4c⟩ := (hh.get 4 _ _ rfl).three
  try dsimp only [u0, addU, sclU] at x0a x0b x0c x1a x1b x1c x2a x2b x2c x3a x3b x3c x4a x4b x4c
  go_wp2_with fail
  clear x0a x0b x0c x1a x1b x1c x2a x2b x2c x3a x3b x3c x4a x4b x4c
  refine (H4.out _).mono ?_
  rintro e w7 ⟨rfl, rfl⟩
  obtain ⟨x0a, x0b, x0c⟩ := (hh.get 0 _ _ rfl).three
  obtain ⟨x1a, x1b, x1c⟩ := (hh.get 1 _ _ rfl).three
  obtain ⟨x2a, x2b, x2c⟩ := (hh.get 2 _ _ rfl).three
  obtain ⟨x3a, x3b, x3c⟩ := (hh.get 3 _ _ rfl).three
  obtain ⟨x4a, x4b, x4c⟩ := (hh.get 4 _ _ rfl).three
  try dsimp only [u0, addU, sclU] at x0a x0b x0c x1a x1b x1c x2a x2b x2c x3a x3b x3c x4a x4b x4c
  go_wp2_with fail
  clear x0a x0b x0c x1a x1b x1c x2a x2b x2c x3a x3b x3c x4a x4b x4c
  go_ret
  exact ⟨ret_bool (by first | rfl | simp | (simp [*])), hB⟩
set_option maxHeartbeats 4000000 in
set_option maxRecDepth 100000 in
theorem errors_ny (a b : U) (w : World) (hL : LayU w) (ha : vB a = true) (hb : vB b = true) (hs : vB (addU a b) = false) (hp : vB (sclU a 2) = true) : Calls Tryd.prog 7 #[uV a, uV b] w fun e w' => e = .returned (.bool true) ∧ Below w.heap.size w w' := by
  have H1 := hid (fun w => within_is (a := a.a) (b := a.b) (c := a.c) ha w)
  have H2 := hid (fun w => within_is (a := b.a) (b := b.b) (c := b.c) hb w)
  have H3 := hid (fun w => within_is (a := a.a + b.a) (b := a.b + b.b) (c := a.c + b.c) hs w)
  have H4 := hid (fun w => within_is (a := 2 * a.a) (b := 2 * a.b) (c := 2 * a.c) (r := true) (by rw [← hp]; unfold sclU; rw [Int.mul_comm 2, Int.mul_comm 2, Int.mul_comm 2]) w)
  have HM := hid (fun w => mul_eq (u := a) (v := b) (x := u0) (e := 9) (by unfold mulU mulE; rw [ha, hb, hs]; exact ⟨rfl, rfl⟩) w)
  have HP := hid (fun w => pow_eq (u := a) (n := 2) (x := sclU a 2) (e := 0) (pow_ok ha hp) w)
  obtain ⟨⟨u1, u2⟩, ⟨u3, u4⟩, u5, u6⟩ := (vB_iff a).1 ha
  obtain ⟨⟨v1, v2⟩, ⟨v3, v4⟩, v5, v6⟩ := (vB_iff b).1 hb
  clear ha hb hs hp
  have HL := hid hL
  clear hL
  have HH := hid (fun w (hL : LayU w) => head_any w hL)
  unfold uV at *
  try dsimp only [addU, sclU, u0] at *
  go_enter Tryd.func7, Tryd.ntmps7
  go_wp2_with fail
  obtain ⟨w0, hw0, hh, hB⟩ := two_units a b w
  rw [hw0]
  clear hw0
  refine (HH.out _ (HL.out.below hB)).mono ?_
  rintro e w1 ⟨rfl, hB1⟩
  replace hh := hh.below hB1
  replace hB := hB.trans (hB1.mono hB.size)
  clear hB1
  obtain ⟨x0a, x0b, x0c⟩ := (hh.get 0 _ _ rfl).three
  obtain ⟨x1a, x1b, x1c⟩ := (hh.get 1 _ _ rfl).three
  try dsimp only [u0, addU, sclU] at x0a x0b x0c x1a x1b x1c
  go_wp2_with fail
  clear x0a x0b x0c x1a x1b x1c
  refine (H1.out _).mono ?_
  rintro e w2 ⟨rfl, rfl⟩
  obtain ⟨x0a, x0b, x0c⟩ := (hh.get 0 _ _ rfl).three
  obtain ⟨x1a, x1b, x1c⟩ := (hh.get 1 _ _ rfl).three
  try dsimp only [u0, addU, sclU] at x0a x0b x0c x1a x1b x1c
  go_wp2_with fail
  clear x0a x0b x0c x1a x1b x1c
  refine (H2.out _).mono ?_
  rintro e w3 ⟨rfl, rfl⟩
  obtain ⟨x0a, x0b, x0c⟩ := (hh.get 0 _ _ rfl).three
  obtain ⟨x1a, x1b, x1c⟩ := (hh.get 1 _ _ rfl).three
  try dsimp only [u0, addU, sclU] at x0a x0b x0c x1a x1b x1c
  go_wp2_with fail
  clear x0a x0b x0c x1a x1b x1c
  refine (HM.out _).mono ?_
  rintro e w4 ⟨rfl, hB1⟩
  replace hh : Un (w4.alloc (Obj.cells #[Value.int .i64 0, Value.int .i64 0, Value.int .i64 0] 23)) [(w4.heap.size, u0), (w.heap.size + 1, b), (w.heap.size, a)] := (hh.below hB1).new u0
  replace hB := (hB.trans (hB1.mono hB.size)).alloc (by have := hB.size; have := hB1.size; omega) (Obj.cells #[Value.int .i64 0, Value.int .i64 0, Value.int .i64 0] 23)
  clear hB1
  obtain ⟨x0a, x0b, x0c⟩ := (hh.get 0 _ _ rfl).three
  obtain ⟨x1a, x1b, x1c⟩ := (hh.get 1 _ _ rfl).three
  obtain ⟨x2a, x2b, x2c⟩ := (hh.get 2 _ _ rfl).three
  try dsimp only [u0, addU, sclU] at x0a x0b x0c x1a x1b x1c x2a x2b x2c
  go_wp2_with fail
  clear x0a x0b x0c x1a x1b x1c x2a x2b x2c
  replace hh : Un ((w4.alloc (Obj.cells #[Value.int .i64 0, Value.int .i64 0, Value.int .i64 0] 23)).alloc (Obj.cells #[Value.int .i64 (a.a + b.a), Value.int .i64 (a.b + b.b), Value.int .i64 (a.c + b.c)] 23)) [(w4.heap.size + 1, (addU a b)), (w4.heap.size, u0), (w.heap.size + 1, b), (w.heap.size, a)] := by
    have := hh.new (addU a b)
    rw [World.size_alloc] at this
    exact this
  replace hB := hB.alloc (by have := hB.size; omega) (Obj.cells #[Value.int .i64 (a.a + b.a), Value.int .i64 (a.b + b.b), Value.int .i64 (a.c + b.c)] 23)
  refine (H3.out _).mono ?_
  rintro e w5 ⟨rfl, rfl⟩
  obtain ⟨x0a, x0b, x0c⟩ := (hh.get 0 _ _ rfl).three
  obtain ⟨x1a, x1b, x1c⟩ := (hh.get 1 _ _ rfl).three
  obtain ⟨x2a, x2b, x2c⟩ := (hh.get 2 _ _ rfl).three
  obtain ⟨x3a, x3b, x3c⟩ := (hh.get 3 _ _ rfl).three
  try dsimp only [u0, addU, sclU] at x0a x0b x0c x1a x1b x1c x2a x2b x2c x3a x3b x3c
  go_wp2_with fail
  clear x0a x0b x0c x1a x1b x1c x2a x2b x2c x3a x3b x3c
  refine (HP.out _).mono ?_
  rintro e w6 ⟨rfl, hB1⟩
  replace hh : Un (w6.alloc (Obj.cells #[Value.int .i64 (a.a * 2), Value.int .i64 (a.b * 2), Value.int .i64 (a.c * 2)] 23)) [(w6.heap.size, (sclU a 2)), (w4.heap.size + 1, (addU a b)), (w4.heap.size, u0), (w.heap.size + 1, b), (w.heap.size, a)] := (hh.below hB1).new (sclU a 2)
  replace hB := (hB.trans (hB1.mono hB.size)).alloc (by have := hB.size; have := hB1.size; omega) (Obj.cells #[Value.int .i64 (a.a * 2), Value.int .i64 (a.b * 2), Value.int .i64 (a.c * 2)] 23)
  clear hB1
  obtain ⟨x0a, x0b, x0c⟩ := (hh.get 0 _ _ rfl).three
  obtain ⟨x1a, x1b, x1c⟩ := (hh.get 1 _ _ rfl).three
  obtain ⟨x2a, x2b, x2c⟩ := (hh.get 2 _ _ rfl).three
  obtain ⟨x3a, x3b, x3c⟩ := (hh.get 3 _ _ rfl).three
  obtain ⟨x4a, x4b, x4c⟩ := (hh.get 4 _ _ rfl).three
  try dsimp only [u0, addU, sclU] at x0a x0b x0c x1a x1b x1c x2a x2b x2c x3a x3b x3c x4a x4b x4c
  go_wp2_with fail
  clear x0a x0b x0c x1a x1b x1c x2a x2b x2c x3a x3b x3c x4a x4b x4c
  refine (H4.out _).mono ?_
  rintro e w7 ⟨rfl, rfl⟩
  obtain ⟨x0a, x0b, x0c⟩ := (hh.get 0 _ _ rfl).three
  obtain ⟨x1a, x1b, x1c⟩ := (hh.get 1 _ _ rfl).three
  obtain ⟨x2a, x2b, x2c⟩ := (hh.get 2 _ _ rfl).three
  obtain ⟨x3a, x3b, x3c⟩ := (hh.get 3 _ _ rfl).three
  obtain ⟨x4a, x4b, x4c⟩ := (hh.get 4 _ _ rfl).three
  try dsimp only [u0, addU, sclU] at x0a x0b x0c x1a x1b x1c x2a x2b x2c x3a x3b x3c x4a x4b x4c
  go_wp2_with fail
  clear x0a x0b x0c x1a x1b x1c x2a x2b x2c x3a x3b x3c x4a x4b x4c
  go_ret
  exact ⟨ret_bool (by first | rfl | simp | (simp [*])), hB⟩
set_option maxHeartbeats 4000000 in
set_option maxRecDepth 100000 in
theorem errors_nn (a b : U) (w : World) (hL : LayU w) (ha : vB a = true) (hb : vB b = true) (hs : vB (addU a b) = false) (hp : vB (sclU a 2) = false) : Calls Tryd.prog 7 #[uV a, uV b] w fun e w' => e = .returned (.bool true) ∧ Below w.heap.size w w' := by
  have H1 := hid (fun w => within_is (a := a.a) (b := a.b) (c := a.c) ha w)
  have H2 := hid (fun w => within_is (a := b.a) (b := b.b) (c := b.c) hb w)
  have H3 := hid (fun w => within_is (a := a.a + b.a) (b := a.b + b.b) (c := a.c + b.c) hs w)
  have H4 := hid (fun w => within_is (a := 2 * a.a) (b := 2 * a.b) (c := 2 * a.c) (r := false) (by rw [← hp]; unfold sclU; rw [Int.mul_comm 2, Int.mul_comm 2, Int.mul_comm 2]) w)
  have HM := hid (fun w => mul_eq (u := a) (v := b) (x := u0) (e := 9) (by unfold mulU mulE; rw [ha, hb, hs]; exact ⟨rfl, rfl⟩) w)
  have HP := hid (fun w => pow_eq (u := a) (n := 2) (x := u0) (e := 9) (pow_out ha hp) w)
  obtain ⟨⟨u1, u2⟩, ⟨u3, u4⟩, u5, u6⟩ := (vB_iff a).1 ha
  obtain ⟨⟨v1, v2⟩, ⟨v3, v4⟩, v5, v6⟩ := (vB_iff b).1 hb
  clear ha hb hs hp
  have HL := hid hL
  clear hL
  have HH := hid (fun w (hL : LayU w) => head_any w hL)
  unfold uV at *
  try dsimp only [addU, sclU, u0] at *
  go_enter Tryd.func7, Tryd.ntmps7
  go_wp2_with fail
  obtain ⟨w0, hw0, hh, hB⟩ := two_units a b w
  rw [hw0]
  clear hw0
  refine (HH.out _ (HL.out.below hB)).mono ?_
  rintro e w1 ⟨rfl, hB1⟩
  replace hh := hh.below hB1
  replace hB := hB.trans (hB1.mono hB.size)
  clear hB1
  obtain ⟨x0a, x0b, x0c⟩ := (hh.get 0 _ _ rfl).three
  obtain ⟨x1a, x1b, x1c⟩ := (hh.get 1 _ _ rfl).three
  try dsimp only [u0, addU, sclU] at x0a x0b x0c x1a x1b x1c
  go_wp2_with fail
  clear x0a x0b x0c x1a x1b x1c
  refine (H1.out _).mono ?_
  rintro e w2 ⟨rfl, rfl⟩
  obtain ⟨x0a, x0b, x0c⟩ := (hh.get 0 _ _ rfl).three
  obtain ⟨x1a, x1b, x1c⟩ := (hh.get 1 _ _ rfl).three
  try dsimp only [u0, addU, sclU] at x0a x0b x0c x1a x1b x1c
  go_wp2_with fail
  clear x0a x0b x0c x1a x1b x1c
  refine (H2.out _).mono ?_
  rintro e w3 ⟨rfl, rfl⟩
  obtain ⟨x0a, x0b, x0c⟩ := (hh.get 0 _ _ rfl).three
  obtain ⟨x1a, x1b, x1c⟩ := (hh.get 1 _ _ rfl).three
  try dsimp only [u0, addU, sclU] at x0a x0b x0c x1a x1b x1c
  go_wp2_with fail
  clear x0a x0b x0c x1a x1b x1c
  refine (HM.out _).mono ?_
  rintro e w4 ⟨rfl, hB1⟩
  replace hh : Un (w4.alloc (Obj.cells #[Value.int .i64 0, Value.int .i64 0, Value.int .i64 0] 23)) [(w4.heap.size, u0), (w.heap.size + 1, b), (w.heap.size, a)] := (hh.below hB1).new u0
  replace hB := (hB.trans (hB1.mono hB.size)).alloc (by have := hB.size; have := hB1.size; omega) (Obj.cells #[Value.int .i64 0, Value.int .i64 0, Value.int .i64 0] 23)
  clear hB1
  obtain ⟨x0a, x0b, x0c⟩ := (hh.get 0 _ _ rfl).three
  obtain ⟨x1a, x1b, x1c⟩ := (hh.get 1 _ _ rfl).three
  obtain ⟨x2a, x2b, x2c⟩ := (hh.get 2 _ _ rfl).three
  try dsimp only [u0, addU, sclU] at x0a x0b x0c x1a x1b x1c x2a x2b x2c
  go_wp2_with fail
  clear x0a x0b x0c x1a x1b x1c x2a x2b x2c
  replace hh : Un ((w4.alloc (Obj.cells #[Value.int .i64 0, Value.int .i64 0, Value.int .i64 0] 23)).alloc (Obj.cells #[Value.int .i64 (a.a + b.a), Value.int .i64 (a.b + b.b), Value.int .i64 (a.c + b.c)] 23)) [(w4.heap.size + 1, (addU a b)), (w4.heap.size, u0), (w.heap.size + 1, b), (w.heap.size, a)] := by
    have := hh.new (addU a b)
    rw [World.size_alloc] at this
    exact this
  replace hB := hB.alloc (by have := hB.size; omega) (Obj.cells #[Value.int .i64 (a.a + b.a), Value.int .i64 (a.b + b.b), Value.int .i64 (a.c + b.c)] 23)
  refine (H3.out _).mono ?_
  rintro e w5 ⟨rfl, rfl⟩
  obtain ⟨x0a, x0b, x0c⟩ := (hh.get 0 _ _ rfl).three
  obtain ⟨x1a, x1b, x1c⟩ := (hh.get 1 _ _ rfl).three
  obtain ⟨x2a, x2b, x2c⟩ := (hh.get 2 _ _ rfl).three
  obtain ⟨x3a, x3b, x3c⟩ := (hh.get 3 _ _ rfl).three
  try dsimp only [u0, addU, sclU] at x0a x0b x0c x1a x1b x1c x2a x2b x2c x3a x3b x3c
  go_wp2_with fail
  clear x0a x0b x0c x1a x1b x1c x2a x2b x2c x3a x3b x3c
  refine (HP.out _).mono ?_
  rintro e w6 ⟨rfl, hB1⟩
  replace hh : Un (w6.alloc (Obj.cells #[Value.int .i64 0, Value.int .i64 0, Value.int .i64 0] 23)) [(w6.heap.size, u0), (w4.heap.size + 1, (addU a b)), (w4.heap.size, u0), (w.heap.size + 1, b), (w.heap.size, a)] := (hh.below hB1).new u0
  replace hB := (hB.trans (hB1.mono hB.size)).alloc (by have := hB.size; have := hB1.size; omega) (Obj.cells #[Value.int .i64 0, Value.int .i64 0, Value.int .i64 0] 23)
  clear hB1
  obtain ⟨x0a, x0b, x0c⟩ := (hh.get 0 _ _ rfl).three
  obtain ⟨x1a, x1b, x1c⟩ := (hh.get 1 _ _ rfl).three
  obtain ⟨x2a, x2b, x2c⟩ := (hh.get 2 _ _ rfl).three
  obtain ⟨x3a, x3b, x3c⟩ := (hh.get 3 _ _ rfl).three
  obtain ⟨x4a, x4b, x4c⟩ := (hh.get 4 _ _ rfl).three
  try dsimp only [u0, addU, sclU] at x0a x0b x0c x1a x1b x1c x2a x2b x2c x3a x3b x3c x4a x4b x4c
  go_wp2_with fail
  clear x0a x0b x0c x1a x1b x1c x2a x2b x2c x3a x3b x3c x4a x4b x4c
  refine (H4.out _).mono ?_
  rintro e w7 ⟨rfl, rfl⟩
  obtain ⟨x0a, x0b, x0c⟩ := (hh.get 0 _ _ rfl).three
  obtain ⟨x1a, x1b, x1c⟩ := (hh.get 1 _ _ rfl).three
  obtain ⟨x2a, x2b, x2c⟩ := (hh.get 2 _ _ rfl).three
  obtain ⟨x3a, x3b, x3c⟩ := (hh.get 3 _ _ rfl).three
  obtain ⟨x4a, x4b, x4c⟩ := (hh.get 4 _ _ rfl).three
  try dsimp only [u0, addU, sclU] at x0a x0b x0c x1a x1b x1c x2a x2b x2c x3a x3b x3c x4a x4b x4c
  go_wp2_with fail
  clear x0a x0b x0c x1a x1b x1c x2a x2b x2c x3a x3b x3c x4a x4b x4c
  go_ret
  exact ⟨ret_bool (by first | rfl | simp | (simp [*])), hB⟩
theorem errors_walk (a b : U) (w : World) (hL : LayU w) : Calls Tryd.prog 7 #[uV a, uV b] w fun e w' => e = .returned (.bool true) ∧ Below w.heap.size w w' := by
  cases ha : vB a with
  | false => exact errors_a a b w hL ha
  | true =>
    cases hb : vB b with
    | false => exact errors_b a b w hL ha hb
    | true =>
      cases hs : vB (addU a b) with
      | false =>
        cases hp : vB (sclU a 2) with
        | false => exact errors_nn a b w hL ha hb hs hp
        | true => exact errors_ny a b w hL ha hb hs hp
      | true =>
        cases hp : vB (sclU a 2) with
        | false => exact errors_yn a b w hL ha hb hs hp
        | true => exact errors_yy a b w hL ha hb hs hp
end Go.Proofs.YtmfoincmjpogmaaDoor
