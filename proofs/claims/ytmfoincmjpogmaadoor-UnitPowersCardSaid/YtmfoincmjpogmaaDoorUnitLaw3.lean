/- unit: the statement UnitPowers -/
import Derived.Test.YtmfoincmjpogmaaDoorUnitOpen
import Derived.Deep.CutRange
namespace Go.Proofs.YtmfoincmjpogmaaDoor
open Go.RowKit
theorem two_unitsP (a b : U) (w : World) : ∃ w0 : World, ((w.alloc (.cells #[.int .i64 a.a, .int .i64 a.b, .int .i64 a.c] 23)).alloc (.cells #[.int .i64 b.a, .int .i64 b.b, .int .i64 b.c] 23)) = w0 ∧ Un w0 [(w.heap.size + 1, b), (w.heap.size, a)] ∧ Below w.heap.size w w0 := by
  refine ⟨_, rfl, ?_, (below_alloc w _).alloc (by simp) _⟩
  have := ((Un.nil w).new a).new b
  rw [World.size_alloc] at this
  exact this
theorem text_okP {u : U} {s : ByteArray} (h : vB u = true) (hs : textB u = s) (w : World) (hL : LayU w) : Calls Tryd.prog 13 #[uV u] w fun e w' => e = .returned (.tuple #[.string s, .int .i64 0]) ∧ Below w.heap.size w w' := by
  subst hs; exact text_good u w h hL.lay hL.names
theorem mul_bd20 {n m : Int} (h1 : -20 ≤ n ∧ n ≤ 20) (h2 : -20 ≤ m ∧ m ≤ 20) : -400 ≤ n * m ∧ n * m ≤ 400 := by
  have p1 := Int.mul_nonneg (show 0 ≤ 20 - n by omega) (show 0 ≤ 20 + m by omega)
  have p2 := Int.mul_nonneg (show 0 ≤ 20 + n by omega) (show 0 ≤ 20 - m by omega)
  have p3 := Int.mul_nonneg (show 0 ≤ 20 - n by omega) (show 0 ≤ 20 - m by omega)
  have p4 := Int.mul_nonneg (show 0 ≤ 20 + n by omega) (show 0 ≤ 20 + m by omega)
  rw [Int.sub_mul, Int.mul_add, Int.mul_add] at p1
  rw [Int.add_mul, Int.mul_sub, Int.mul_sub] at p2
  rw [Int.sub_mul, Int.mul_sub, Int.mul_sub] at p3
  rw [Int.add_mul, Int.mul_add, Int.mul_add] at p4
  omega
set_option maxHeartbeats 8000000 in
set_option maxRecDepth 100000 in
theorem powers_good (a b : U) (rn rm : Int) (w : World) (hL : LayU w) (h0 : 0 ≤ rn ∧ rn ≤ 255) (h1 : 0 ≤ rm ∧ rm ≤ 255) (ha : vB a = true) : Calls Tryd.prog 5 #[uV a, uV b, .int .u8 rn, .int .u8 rm] w fun e w' => e = .returned (.bool true) ∧ Below w.heap.size w w' := by
  obtain ⟨N, hN⟩ : ∃ N, rn % 41 - 20 = N := ⟨_, rfl⟩
  obtain ⟨M, hM⟩ : ∃ M, rm % 41 - 20 = M := ⟨_, rfl⟩
  have bN : -20 ≤ N ∧ N ≤ 20 := by omega
  have bM : -20 ≤ M ∧ M ≤ 20 := by omega
  have bNM := mul_bd20 bN bM
  obtain ⟨bN1, bN2⟩ := bN
  obtain ⟨bM1, bM2⟩ := bM
  obtain ⟨bQ1, bQ2⟩ := bNM
  have pe : ∀ (u : U) (n : Int), ∃ x e, powR u n = (x, e) := fun u n => ⟨_, _, rfl⟩
  have me : ∀ (u v : U), ∃ x e, mulU u v = x ∧ mulE u v = e := fun u v => ⟨_, _, rfl, rfl⟩
  obtain ⟨x, e, p1⟩ := pe a N
  obtain ⟨y, f, p2⟩ := pe a M
  obtain ⟨z, g, p3⟩ := pe a (N + M)
  obtain ⟨xy, h, m1⟩ := me x y
  obtain ⟨t, i, p4⟩ := pe x M
  obtain ⟨u, j, p5⟩ := pe a (N * M)
  obtain ⟨ab, k, m2⟩ := me a b
  obtain ⟨p, l, p6⟩ := pe ab N
  obtain ⟨q, o, p7⟩ := pe b N
  obtain ⟨xq, r, m3⟩ := me x q
  have L1 := hid (show (e == 0) = true → (f == 0) = true → (g == 0) = true → (h == 0) = true → xy = z by
    intro z1 z2 z3 z4
    simp only [beq_iff_eq] at z1 z2 z3 z4
    have e1 : (powR a N).1 = x := by rw [p1]
    have e2 : (powR a M).1 = y := by rw [p2]
    have e3 : (powR a (N + M)).1 = z := by rw [p3]
    rw [← m1.1, ← e1, ← e2, ← e3]
    exact pow_add (by rw [p1]; exact z1) (by rw [p2]; exact z2) (by rw [p3]; exact z3) (by rw [e1, e2, m1.2]; exact z4))
  have L2 := hid (show (e == 0) = true → (i == 0) = true → (j == 0) = true → t = u by
    intro z1 z2 z3
    simp only [beq_iff_eq] at z1 z2 z3
    have e1 : (powR a N).1 = x := by rw [p1]
    have e2 : (powR x M).1 = t := by rw [p4]
    have e3 : (powR a (N * M)).1 = u := by rw [p5]
    rw [← e2, ← e3, ← e1]
    exact pow_pow (by rw [p1]; exact z1) (by rw [e1, p4]; exact z2) (by rw [p5]; exact z3))
  have L3 := hid (show (k == 0) = true → (l == 0) = true → (e == 0) = true → (o == 0) = true → (r == 0) = true → p = xq by
    intro z1 z2 z3 z4 z5
    simp only [beq_iff_eq] at z1 z2 z3 z4 z5
    have e1 : (powR a N).1 = x := by rw [p1]
    have e2 : (powR b N).1 = q := by rw [p7]
    have e3 : (powR ab N).1 = p := by rw [p6]
    rw [← m3.1, ← e3, ← m2.1, ← e1, ← e2]
    exact pow_mul (by rw [m2.2]; exact z1) (by rw [m2.1, p6]; exact z2) (by rw [p1]; exact z3) (by rw [p7]; exact z4) (by rw [e1, e2, m3.2]; exact z5))
  have P1 := hid (fun w => pow_eq p1 w)
  have P2 := hid (fun w => pow_eq p2 w)
  have P3 := hid (fun w => pow_eq p3 w)
  have M1 := hid (fun w => mul_eq m1 w)
  have P4 := hid (fun w => pow_eq p4 w)
  have P5 := hid (fun w => pow_eq p5 w)
  have M2 := hid (fun w => mul_eq m2 w)
  have P6 := hid (fun w => pow_eq p6 w)
  have P7 := hid (fun w => pow_eq p7 w)
  have M3 := hid (fun w => mul_eq m3 w)
  obtain ⟨ts, hts⟩ : ∃ ts, textB a = ts := ⟨_, rfl⟩
  have P8 := hid (fun w => pow_eq (pow_nil ha) w)
  have P9 := hid (fun w => pow_eq (pow_one ha) w)
  have HT := hid (fun w hL => text_okP ha hts w hL)
  clear hts
  clear p1 p2 p3 m1 p4 p5 m2 p6 p7 m3 pe me ha
  have HL := hid hL
  clear hL
  have HH := hid (fun w (hL : LayU w) => head_any w hL)
  unfold uV at *
  try dsimp only [u0] at *
  go_enter Tryd.func5, Tryd.ntmps5
  go_wp2_with fail
  obtain ⟨w0, hw0, hh, hB⟩ := two_unitsP a b w
  rw [hw0]
  clear hw0
  refine (HH.out _ (HL.out.below hB)).mono ?_
  rintro e w1 ⟨rfl, hB1⟩
  replace hh := hh.below hB1
  replace hB := hB.trans (hB1.mono hB.size)
  clear hB1
  obtain ⟨x1a, x1b, x1c⟩ := (hh.get 1 _ _ rfl).three
  try dsimp only [u0, addU, sclU] at x1a x1b x1c
  go_wp2_with fail
  clear x1a x1b x1c
  clear hN hM h0 h1
  refine (P1.out _).mono ?_
  rintro e w2 ⟨rfl, hB1⟩
  replace hh : Un (w2.alloc (Obj.cells #[Value.int .i64 x.a, Value.int .i64 x.b, Value.int .i64 x.c] 23)) [(w2.heap.size, x), (w.heap.size + 1, b), (w.heap.size, a)] := (hh.below hB1).new x
  replace hB := (hB.trans (hB1.mono hB.size)).alloc (by have := hB.size; have := hB1.size; omega) (Obj.cells #[Value.int .i64 x.a, Value.int .i64 x.b, Value.int .i64 x.c] 23)
  clear hB1
  obtain ⟨x2a, x2b, x2c⟩ := (hh.get 2 _ _ rfl).three
  try dsimp only [u0, addU, sclU] at x2a x2b x2c
  go_wp2_with fail
  clear x2a x2b x2c
  refine (P2.out _).mono ?_
  rintro e w3 ⟨rfl, hB1⟩
  replace hh : Un (w3.alloc (Obj.cells #[Value.int .i64 y.a, Value.int .i64 y.b, Value.int .i64 y.c] 23)) [(w3.heap.size, y), (w2.heap.size, x), (w.heap.size + 1, b), (w.heap.size, a)] := (hh.below hB1).new y
  replace hB := (hB.trans (hB1.mono hB.size)).alloc (by have := hB.size; have := hB1.size; omega) (Obj.cells #[Value.int .i64 y.a, Value.int .i64 y.b, Value.int .i64 y.c] 23)
  clear hB1
  obtain ⟨x3a, x3b, x3c⟩ := (hh.get 3 _ _ rfl).three
  try dsimp only [u0, addU, sclU] at x3a x3b x3c
  go_wp2_with fail
  clear x3a x3b x3c
  refine (P3.out _).mono ?_
  rintro e w4 ⟨rfl, hB1⟩
  replace hh : Un (w4.alloc (Obj.cells #[Value.int .i64 z.a, Value.int .i64 z.b, Value.int .i64 z.c] 23)) [(w4.heap.size, z), (w3.heap.size, y), (w2.heap.size, x), (w.heap.size + 1, b), (w.heap.size, a)] := (hh.below hB1).new z
  replace hB := (hB.trans (hB1.mono hB.size)).alloc (by have := hB.size; have := hB1.size; omega) (Obj.cells #[Value.int .i64 z.a, Value.int .i64 z.b, Value.int .i64 z.c] 23)
  clear hB1
  obtain ⟨x1a, x1b, x1c⟩ := (hh.get 1 _ _ rfl).three
  obtain ⟨x2a, x2b, x2c⟩ := (hh.get 2 _ _ rfl).three
  try dsimp only [u0, addU, sclU] at x1a x1b x1c x2a x2b x2c
  go_wp2_with fail
  clear x1a x1b x1c x2a x2b x2c
  refine (M1.out _).mono ?_
  rintro e w5 ⟨rfl, hB1⟩
  replace hh : Un (w5.alloc (Obj.cells #[Value.int .i64 xy.a, Value.int .i64 xy.b, Value.int .i64 xy.c] 23)) [(w5.heap.size, xy), (w4.heap.size, z), (w3.heap.size, y), (w2.heap.size, x), (w.heap.size + 1, b), (w.heap.size, a)] := (hh.below hB1).new xy
  replace hB := (hB.trans (hB1.mono hB.size)).alloc (by have := hB.size; have := hB1.size; omega) (Obj.cells #[Value.int .i64 xy.a, Value.int .i64 xy.b, Value.int .i64 xy.c] 23)
  clear hB1
  go_upto_region 7 with fail
  generalize (w5.alloc (Obj.cells #[Value.int .i64 xy.a, Value.int .i64 xy.b, Value.int .i64 xy.c] 23)) = v5 at hh hB ⊢
  go_cut [91] from 73 to 91 (fun s91 wx => s91 = .bool false ∧ v5 = wx)
  case first =>
    obtain ⟨x0a, x0b, x0c⟩ := (hh.get 0 _ _ rfl).three
    obtain ⟨x1a, x1b, x1c⟩ := (hh.get 1 _ _ rfl).three
    try dsimp only [u0, addU, sclU] at x0a x0b x0c x1a x1b x1c
    rcases Bool.eq_false_or_eq_true (e == 0) with ze | ze
    · skip
      rcases Bool.eq_false_or_eq_true (f == 0) with zf | zf
      · skip
        rcases Bool.eq_false_or_eq_true (g == 0) with zg | zg
        · skip
          rcases Bool.eq_false_or_eq_true (h == 0) with zh | zh
          · skip
            have hq := L1.out ze zf zg zh
            rw [← hq] at x1a x1b x1c
            clear hq
            go_wp2_with fail
            go_meet
            case rel => exact ⟨by first | rfl | simp, rfl⟩
          · go_wp2_with fail
            go_meet
            case rel => exact ⟨by first | rfl | simp, rfl⟩
        · go_wp2_with fail
          go_meet
          case rel => exact ⟨by first | rfl | simp, rfl⟩
      · go_wp2_with fail
        go_meet
        case rel => exact ⟨by first | rfl | simp, rfl⟩
    · go_wp2_with fail
      go_meet
      case rel => exact ⟨by first | rfl | simp, rfl⟩
  case rest =>
    obtain ⟨rfl, rfl⟩ := hcut
    obtain ⟨x3a, x3b, x3c⟩ := (hh.get 3 _ _ rfl).three
    try dsimp only [u0, addU, sclU] at x3a x3b x3c
    go_wp2_with fail
    clear x3a x3b x3c
    refine (P4.out _).mono ?_
    rintro e w6 ⟨rfl, hB1⟩
    replace hh : Un (w6.alloc (Obj.cells #[Value.int .i64 t.a, Value.int .i64 t.b, Value.int .i64 t.c] 23)) [(w6.heap.size, t), (w5.heap.size, xy), (w4.heap.size, z), (w3.heap.size, y), (w2.heap.size, x), (w.heap.size + 1, b), (w.heap.size, a)] := (hh.below hB1).new t
    replace hB := (hB.trans (hB1.mono hB.size)).alloc (by have := hB.size; have := hB1.size; omega) (Obj.cells #[Value.int .i64 t.a, Value.int .i64 t.b, Value.int .i64 t.c] 23)
    clear hB1
    obtain ⟨x6a, x6b, x6c⟩ := (hh.get 6 _ _ rfl).three
    try dsimp only [u0, addU, sclU] at x6a x6b x6c
    go_wp2_with fail
    clear x6a x6b x6c
    refine (P5.out _).mono ?_
    rintro e w7 ⟨rfl, hB1⟩
    replace hh : Un (w7.alloc (Obj.cells #[Value.int .i64 u.a, Value.int .i64 u.b, Value.int .i64 u.c] 23)) [(w7.heap.size, u), (w6.heap.size, t), (w5.heap.size, xy), (w4.heap.size, z), (w3.heap.size, y), (w2.heap.size, x), (w.heap.size + 1, b), (w.heap.size, a)] := (hh.below hB1).new u
    replace hB := (hB.trans (hB1.mono hB.size)).alloc (by have := hB.size; have := hB1.size; omega) (Obj.cells #[Value.int .i64 u.a, Value.int .i64 u.b, Value.int .i64 u.c] 23)
    clear hB1
    go_upto_region 11 with fail
    generalize (w7.alloc (Obj.cells #[Value.int .i64 u.a, Value.int .i64 u.b, Value.int .i64 u.c] 23)) = v7 at hh hB ⊢
    go_cut [120] from 106 to 120 (fun s120 wx => s120 = .bool false ∧ v7 = wx)
    case first =>
      obtain ⟨x0a, x0b, x0c⟩ := (hh.get 0 _ _ rfl).three
      obtain ⟨x1a, x1b, x1c⟩ := (hh.get 1 _ _ rfl).three
      try dsimp only [u0, addU, sclU] at x0a x0b x0c x1a x1b x1c
      rcases Bool.eq_false_or_eq_true (e == 0) with ze | ze
      · skip
        rcases Bool.eq_false_or_eq_true (i == 0) with zi | zi
        · skip
          rcases Bool.eq_false_or_eq_true (j == 0) with zj | zj
          · skip
            have hq := L2.out ze zi zj
            rw [← hq] at x0a x0b x0c
            clear hq
            go_wp2_with fail
            go_meet
            case rel => exact ⟨by first | rfl | simp, rfl⟩
          · go_wp2_with fail
            go_meet
            case rel => exact ⟨by first | rfl | simp, rfl⟩
        · go_wp2_with fail
          go_meet
          case rel => exact ⟨by first | rfl | simp, rfl⟩
      · go_wp2_with fail
        go_meet
        case rel => exact ⟨by first | rfl | simp, rfl⟩
    case rest =>
      obtain ⟨rfl, rfl⟩ := hcut
      obtain ⟨x6a, x6b, x6c⟩ := (hh.get 6 _ _ rfl).three
      obtain ⟨x7a, x7b, x7c⟩ := (hh.get 7 _ _ rfl).three
      try dsimp only [u0, addU, sclU] at x6a x6b x6c x7a x7b x7c
      go_wp2_with fail
      clear x6a x6b x6c x7a x7b x7c
      refine (M2.out _).mono ?_
      rintro e w8 ⟨rfl, hB1⟩
      replace hh : Un (w8.alloc (Obj.cells #[Value.int .i64 ab.a, Value.int .i64 ab.b, Value.int .i64 ab.c] 23)) [(w8.heap.size, ab), (w7.heap.size, u), (w6.heap.size, t), (w5.heap.size, xy), (w4.heap.size, z), (w3.heap.size, y), (w2.heap.size, x), (w.heap.size + 1, b), (w.heap.size, a)] := (hh.below hB1).new ab
      replace hB := (hB.trans (hB1.mono hB.size)).alloc (by have := hB.size; have := hB1.size; omega) (Obj.cells #[Value.int .i64 ab.a, Value.int .i64 ab.b, Value.int .i64 ab.c] 23)
      clear hB1
      obtain ⟨x0a, x0b, x0c⟩ := (hh.get 0 _ _ rfl).three
      try dsimp only [u0, addU, sclU] at x0a x0b x0c
      go_wp2_with fail
      clear x0a x0b x0c
      refine (P6.out _).mono ?_
      rintro e w9 ⟨rfl, hB1⟩
      replace hh : Un (w9.alloc (Obj.cells #[Value.int .i64 p.a, Value.int .i64 p.b, Value.int .i64 p.c] 23)) [(w9.heap.size, p), (w8.heap.size, ab), (w7.heap.size, u), (w6.heap.size, t), (w5.heap.size, xy), (w4.heap.size, z), (w3.heap.size, y), (w2.heap.size, x), (w.heap.size + 1, b), (w.heap.size, a)] := (hh.below hB1).new p
      replace hB := (hB.trans (hB1.mono hB.size)).alloc (by have := hB.size; have := hB1.size; omega) (Obj.cells #[Value.int .i64 p.a, Value.int .i64 p.b, Value.int .i64 p.c] 23)
      clear hB1
      obtain ⟨x8a, x8b, x8c⟩ := (hh.get 8 _ _ rfl).three
      try dsimp only [u0, addU, sclU] at x8a x8b x8c
      go_wp2_with fail
      clear x8a x8b x8c
      refine (P7.out _).mono ?_
      rintro e w10 ⟨rfl, hB1⟩
      replace hh : Un (w10.alloc (Obj.cells #[Value.int .i64 q.a, Value.int .i64 q.b, Value.int .i64 q.c] 23)) [(w10.heap.size, q), (w9.heap.size, p), (w8.heap.size, ab), (w7.heap.size, u), (w6.heap.size, t), (w5.heap.size, xy), (w4.heap.size, z), (w3.heap.size, y), (w2.heap.size, x), (w.heap.size + 1, b), (w.heap.size, a)] := (hh.below hB1).new q
      replace hB := (hB.trans (hB1.mono hB.size)).alloc (by have := hB.size; have := hB1.size; omega) (Obj.cells #[Value.int .i64 q.a, Value.int .i64 q.b, Value.int .i64 q.c] 23)
      clear hB1
      obtain ⟨x0a, x0b, x0c⟩ := (hh.get 0 _ _ rfl).three
      obtain ⟨x8a, x8b, x8c⟩ := (hh.get 8 _ _ rfl).three
      try dsimp only [u0, addU, sclU] at x0a x0b x0c x8a x8b x8c
      go_wp2_with fail
      clear x0a x0b x0c x8a x8b x8c
      refine (M3.out _).mono ?_
      rintro e w11 ⟨rfl, hB1⟩
      replace hh : Un (w11.alloc (Obj.cells #[Value.int .i64 xq.a, Value.int .i64 xq.b, Value.int .i64 xq.c] 23)) [(w11.heap.size, xq), (w10.heap.size, q), (w9.heap.size, p), (w8.heap.size, ab), (w7.heap.size, u), (w6.heap.size, t), (w5.heap.size, xy), (w4.heap.size, z), (w3.heap.size, y), (w2.heap.size, x), (w.heap.size + 1, b), (w.heap.size, a)] := (hh.below hB1).new xq
      replace hB := (hB.trans (hB1.mono hB.size)).alloc (by have := hB.size; have := hB1.size; omega) (Obj.cells #[Value.int .i64 xq.a, Value.int .i64 xq.b, Value.int .i64 xq.c] 23)
      clear hB1
      go_upto_region 17 with fail
      generalize (w11.alloc (Obj.cells #[Value.int .i64 xq.a, Value.int .i64 xq.b, Value.int .i64 xq.c] 23)) = v11 at hh hB ⊢
      go_cut [167] from 145 to 167 (fun s167 wx => s167 = .bool false ∧ v11 = wx)
      case first =>
        obtain ⟨x0a, x0b, x0c⟩ := (hh.get 0 _ _ rfl).three
        obtain ⟨x2a, x2b, x2c⟩ := (hh.get 2 _ _ rfl).three
        try dsimp only [u0, addU, sclU] at x0a x0b x0c x2a x2b x2c
        rcases Bool.eq_false_or_eq_true (k == 0) with zk | zk
        · skip
          rcases Bool.eq_false_or_eq_true (l == 0) with zl | zl
          · skip
            rcases Bool.eq_false_or_eq_true (e == 0) with ze | ze
            · skip
              rcases Bool.eq_false_or_eq_true (o == 0) with zo | zo
              · skip
                rcases Bool.eq_false_or_eq_true (r == 0) with zr | zr
                · skip
                  have hq := L3.out zk zl ze zo zr
                  rw [← hq] at x0a x0b x0c
                  clear hq
                  go_wp2_with fail
                  go_meet
                  case rel => exact ⟨by first | rfl | simp, rfl⟩
                · go_wp2_with fail
                  go_meet
                  case rel => exact ⟨by first | rfl | simp, rfl⟩
              · go_wp2_with fail
                go_meet
                case rel => exact ⟨by first | rfl | simp, rfl⟩
            · go_wp2_with fail
              go_meet
              case rel => exact ⟨by first | rfl | simp, rfl⟩
          · go_wp2_with fail
            go_meet
            case rel => exact ⟨by first | rfl | simp, rfl⟩
        · go_wp2_with fail
          go_meet
          case rel => exact ⟨by first | rfl | simp, rfl⟩
      case rest =>
        obtain ⟨rfl, rfl⟩ := hcut
        obtain ⟨x11a, x11b, x11c⟩ := (hh.get 11 _ _ rfl).three
        try dsimp only [u0, addU, sclU] at x11a x11b x11c
        go_wp2_with fail
        clear x11a x11b x11c
        refine (P8.out _).mono ?_
        rintro e w12 ⟨rfl, hB1⟩
        replace hh : Un (w12.alloc (Obj.cells #[Value.int .i64 0, Value.int .i64 0, Value.int .i64 0] 23)) [(w12.heap.size, u0), (w11.heap.size, xq), (w10.heap.size, q), (w9.heap.size, p), (w8.heap.size, ab), (w7.heap.size, u), (w6.heap.size, t), (w5.heap.size, xy), (w4.heap.size, z), (w3.heap.size, y), (w2.heap.size, x), (w.heap.size + 1, b), (w.heap.size, a)] := (hh.below hB1).new u0
        replace hB := (hB.trans (hB1.mono hB.size)).alloc (by have := hB.size; have := hB1.size; omega) (Obj.cells #[Value.int .i64 0, Value.int .i64 0, Value.int .i64 0] 23)
        clear hB1
        obtain ⟨x12a, x12b, x12c⟩ := (hh.get 12 _ _ rfl).three
        try dsimp only [u0, addU, sclU] at x12a x12b x12c
        go_wp2_with fail
        clear x12a x12b x12c
        refine (P9.out _).mono ?_
        rintro e w13 ⟨rfl, hB1⟩
        replace hh : Un (w13.alloc (Obj.cells #[Value.int .i64 a.a, Value.int .i64 a.b, Value.int .i64 a.c] 23)) [(w13.heap.size, a), (w12.heap.size, u0), (w11.heap.size, xq), (w10.heap.size, q), (w9.heap.size, p), (w8.heap.size, ab), (w7.heap.size, u), (w6.heap.size, t), (w5.heap.size, xy), (w4.heap.size, z), (w3.heap.size, y), (w2.heap.size, x), (w.heap.size + 1, b), (w.heap.size, a)] := (hh.below hB1).new a
        replace hB := (hB.trans (hB1.mono hB.size)).alloc (by have := hB.size; have := hB1.size; omega) (Obj.cells #[Value.int .i64 a.a, Value.int .i64 a.b, Value.int .i64 a.c] 23)
        clear hB1
        obtain ⟨x0a, x0b, x0c⟩ := (hh.get 0 _ _ rfl).three
        obtain ⟨x13a, x13b, x13c⟩ := (hh.get 13 _ _ rfl).three
        try dsimp only [u0, addU, sclU] at x0a x0b x0c x13a x13b x13c
        go_wp2_with fail
        clear x0a x0b x0c x13a x13b x13c
        refine (HT.out _ (HL.out.below hB)).mono ?_
        rintro e w14 ⟨rfl, hB1⟩
        replace hh := hh.below hB1
        replace hB := hB.trans (hB1.mono hB.size)
        clear hB1
        obtain ⟨x0a, x0b, x0c⟩ := (hh.get 0 _ _ rfl).three
        obtain ⟨x1a, x1b, x1c⟩ := (hh.get 1 _ _ rfl).three
        obtain ⟨x13a, x13b, x13c⟩ := (hh.get 13 _ _ rfl).three
        try dsimp only [u0, addU, sclU] at x0a x0b x0c x1a x1b x1c x13a x13b x13c
        go_wp2_with fail
        clear x0a x0b x0c x1a x1b x1c x13a x13b x13c
        go_ret
        exact ⟨ret_bool (by first | rfl | simp | (simp [*])), hB⟩
set_option maxHeartbeats 8000000 in
set_option maxRecDepth 100000 in
theorem powers_bad (a b : U) (rn rm : Int) (w : World) (hL : LayU w) (h0 : 0 ≤ rn ∧ rn ≤ 255) (h1 : 0 ≤ rm ∧ rm ≤ 255) (ha : vB a = false) : Calls Tryd.prog 5 #[uV a, uV b, .int .u8 rn, .int .u8 rm] w fun e w' => e = .returned (.bool true) ∧ Below w.heap.size w w' := by
  obtain ⟨N, hN⟩ : ∃ N, rn % 41 - 20 = N := ⟨_, rfl⟩
  obtain ⟨M, hM⟩ : ∃ M, rm % 41 - 20 = M := ⟨_, rfl⟩
  have bN : -20 ≤ N ∧ N ≤ 20 := by omega
  have bM : -20 ≤ M ∧ M ≤ 20 := by omega
  have bNM := mul_bd20 bN bM
  obtain ⟨bN1, bN2⟩ := bN
  obtain ⟨bM1, bM2⟩ := bM
  obtain ⟨bQ1, bQ2⟩ := bNM
  have pe : ∀ (u : U) (n : Int), ∃ x e, powR u n = (x, e) := fun u n => ⟨_, _, rfl⟩
  have me : ∀ (u v : U), ∃ x e, mulU u v = x ∧ mulE u v = e := fun u v => ⟨_, _, rfl, rfl⟩
  obtain ⟨x, e, p1⟩ := pe a N
  obtain ⟨y, f, p2⟩ := pe a M
  obtain ⟨z, g, p3⟩ := pe a (N + M)
  obtain ⟨xy, h, m1⟩ := me x y
  obtain ⟨t, i, p4⟩ := pe x M
  obtain ⟨u, j, p5⟩ := pe a (N * M)
  obtain ⟨ab, k, m2⟩ := me a b
  obtain ⟨p, l, p6⟩ := pe ab N
  obtain ⟨q, o, p7⟩ := pe b N
  obtain ⟨xq, r, m3⟩ := me x q
  have L1 := hid (show (e == 0) = true → (f == 0) = true → (g == 0) = true → (h == 0) = true → xy = z by
    intro z1 z2 z3 z4
    simp only [beq_iff_eq] at z1 z2 z3 z4
    have e1 : (powR a N).1 = x := by rw [p1]
    have e2 : (powR a M).1 = y := by rw [p2]
    have e3 : (powR a (N + M)).1 = z := by rw [p3]
    rw [← m1.1, ← e1, ← e2, ← e3]
    exact pow_add (by rw [p1]; exact z1) (by rw [p2]; exact z2) (by rw [p3]; exact z3) (by rw [e1, e2, m1.2]; exact z4))
  have L2 := hid (show (e == 0) = true → (i == 0) = true → (j == 0) = true → t = u by
    intro z1 z2 z3
    simp only [beq_iff_eq] at z1 z2 z3
    have e1 : (powR a N).1 = x := by rw [p1]
    have e2 : (powR x M).1 = t := by rw [p4]
    have e3 : (powR a (N * M)).1 = u := by rw [p5]
    rw [← e2, ← e3, ← e1]
    exact pow_pow (by rw [p1]; exact z1) (by rw [e1, p4]; exact z2) (by rw [p5]; exact z3))
  have L3 := hid (show (k == 0) = true → (l == 0) = true → (e == 0) = true → (o == 0) = true → (r == 0) = true → p = xq by
    intro z1 z2 z3 z4 z5
    simp only [beq_iff_eq] at z1 z2 z3 z4 z5
    have e1 : (powR a N).1 = x := by rw [p1]
    have e2 : (powR b N).1 = q := by rw [p7]
    have e3 : (powR ab N).1 = p := by rw [p6]
    rw [← m3.1, ← e3, ← m2.1, ← e1, ← e2]
    exact pow_mul (by rw [m2.2]; exact z1) (by rw [m2.1, p6]; exact z2) (by rw [p1]; exact z3) (by rw [p7]; exact z4) (by rw [e1, e2, m3.2]; exact z5))
  have P1 := hid (fun w => pow_eq p1 w)
  have P2 := hid (fun w => pow_eq p2 w)
  have P3 := hid (fun w => pow_eq p3 w)
  have M1 := hid (fun w => mul_eq m1 w)
  have P4 := hid (fun w => pow_eq p4 w)
  have P5 := hid (fun w => pow_eq p5 w)
  have M2 := hid (fun w => mul_eq m2 w)
  have P6 := hid (fun w => pow_eq p6 w)
  have P7 := hid (fun w => pow_eq p7 w)
  have M3 := hid (fun w => mul_eq m3 w)
  have P8 := hid (fun w => pow_eq (pow_arg (n := 0) ha) w)
  have P9 := hid (fun w => pow_eq (pow_arg (n := 1) ha) w)
  have HT := hid (fun w => text_bad a w ha)
  clear p1 p2 p3 m1 p4 p5 m2 p6 p7 m3 pe me ha
  have HL := hid hL
  clear hL
  have HH := hid (fun w (hL : LayU w) => head_any w hL)
  unfold uV at *
  try dsimp only [u0] at *
  go_enter Tryd.func5, Tryd.ntmps5
  go_wp2_with fail
  obtain ⟨w0, hw0, hh, hB⟩ := two_unitsP a b w
  rw [hw0]
  clear hw0
  refine (HH.out _ (HL.out.below hB)).mono ?_
  rintro e w1 ⟨rfl, hB1⟩
  replace hh := hh.below hB1
  replace hB := hB.trans (hB1.mono hB.size)
  clear hB1
  obtain ⟨x1a, x1b, x1c⟩ := (hh.get 1 _ _ rfl).three
  try dsimp only [u0, addU, sclU] at x1a x1b x1c
  go_wp2_with fail
  clear x1a x1b x1c
  clear hN hM h0 h1
  refine (P1.out _).mono ?_
  rintro e w2 ⟨rfl, hB1⟩
  replace hh : Un (w2.alloc (Obj.cells #[Value.int .i64 x.a, Value.int .i64 x.b, Value.int .i64 x.c] 23)) [(w2.heap.size, x), (w.heap.size + 1, b), (w.heap.size, a)] := (hh.below hB1).new x
  replace hB := (hB.trans (hB1.mono hB.size)).alloc (by have := hB.size; have := hB1.size; omega) (Obj.cells #[Value.int .i64 x.a, Value.int .i64 x.b, Value.int .i64 x.c] 23)
  clear hB1
  obtain ⟨x2a, x2b, x2c⟩ := (hh.get 2 _ _ rfl).three
  try dsimp only [u0, addU, sclU] at x2a x2b x2c
  go_wp2_with fail
  clear x2a x2b x2c
  refine (P2.out _).mono ?_
  rintro e w3 ⟨rfl, hB1⟩
  replace hh : Un (w3.alloc (Obj.cells #[Value.int .i64 y.a, Value.int .i64 y.b, Value.int .i64 y.c] 23)) [(w3.heap.size, y), (w2.heap.size, x), (w.heap.size + 1, b), (w.heap.size, a)] := (hh.below hB1).new y
  replace hB := (hB.trans (hB1.mono hB.size)).alloc (by have := hB.size; have := hB1.size; omega) (Obj.cells #[Value.int .i64 y.a, Value.int .i64 y.b, Value.int .i64 y.c] 23)
  clear hB1
  obtain ⟨x3a, x3b, x3c⟩ := (hh.get 3 _ _ rfl).three
  try dsimp only [u0, addU, sclU] at x3a x3b x3c
  go_wp2_with fail
  clear x3a x3b x3c
  refine (P3.out _).mono ?_
  rintro e w4 ⟨rfl, hB1⟩
  replace hh : Un (w4.alloc (Obj.cells #[Value.int .i64 z.a, Value.int .i64 z.b, Value.int .i64 z.c] 23)) [(w4.heap.size, z), (w3.heap.size, y), (w2.heap.size, x), (w.heap.size + 1, b), (w.heap.size, a)] := (hh.below hB1).new z
  replace hB := (hB.trans (hB1.mono hB.size)).alloc (by have := hB.size; have := hB1.size; omega) (Obj.cells #[Value.int .i64 z.a, Value.int .i64 z.b, Value.int .i64 z.c] 23)
  clear hB1
  obtain ⟨x1a, x1b, x1c⟩ := (hh.get 1 _ _ rfl).three
  obtain ⟨x2a, x2b, x2c⟩ := (hh.get 2 _ _ rfl).three
  try dsimp only [u0, addU, sclU] at x1a x1b x1c x2a x2b x2c
  go_wp2_with fail
  clear x1a x1b x1c x2a x2b x2c
  refine (M1.out _).mono ?_
  rintro e w5 ⟨rfl, hB1⟩
  replace hh : Un (w5.alloc (Obj.cells #[Value.int .i64 xy.a, Value.int .i64 xy.b, Value.int .i64 xy.c] 23)) [(w5.heap.size, xy), (w4.heap.size, z), (w3.heap.size, y), (w2.heap.size, x), (w.heap.size + 1, b), (w.heap.size, a)] := (hh.below hB1).new xy
  replace hB := (hB.trans (hB1.mono hB.size)).alloc (by have := hB.size; have := hB1.size; omega) (Obj.cells #[Value.int .i64 xy.a, Value.int .i64 xy.b, Value.int .i64 xy.c] 23)
  clear hB1
  go_upto_region 7 with fail
  generalize (w5.alloc (Obj.cells #[Value.int .i64 xy.a, Value.int .i64 xy.b, Value.int .i64 xy.c] 23)) = v5 at hh hB ⊢
  go_cut [91] from 73 to 91 (fun s91 wx => s91 = .bool false ∧ v5 = wx)
  case first =>
    obtain ⟨x0a, x0b, x0c⟩ := (hh.get 0 _ _ rfl).three
    obtain ⟨x1a, x1b, x1c⟩ := (hh.get 1 _ _ rfl).three
    try dsimp only [u0, addU, sclU] at x0a x0b x0c x1a x1b x1c
    rcases Bool.eq_false_or_eq_true (e == 0) with ze | ze
    · skip
      rcases Bool.eq_false_or_eq_true (f == 0) with zf | zf
      · skip
        rcases Bool.eq_false_or_eq_true (g == 0) with zg | zg
        · skip
          rcases Bool.eq_false_or_eq_true (h == 0) with zh | zh
          · skip
            have hq := L1.out ze zf zg zh
            rw [← hq] at x1a x1b x1c
            clear hq
            go_wp2_with fail
            go_meet
            case rel => exact ⟨by first | rfl | simp, rfl⟩
          · go_wp2_with fail
            go_meet
            case rel => exact ⟨by first | rfl | simp, rfl⟩
        · go_wp2_with fail
          go_meet
          case rel => exact ⟨by first | rfl | simp, rfl⟩
      · go_wp2_with fail
        go_meet
        case rel => exact ⟨by first | rfl | simp, rfl⟩
    · go_wp2_with fail
      go_meet
      case rel => exact ⟨by first | rfl | simp, rfl⟩
  case rest =>
    obtain ⟨rfl, rfl⟩ := hcut
    obtain ⟨x3a, x3b, x3c⟩ := (hh.get 3 _ _ rfl).three
    try dsimp only [u0, addU, sclU] at x3a x3b x3c
    go_wp2_with fail
    clear x3a x3b x3c
    refine (P4.out _).mono ?_
    rintro e w6 ⟨rfl, hB1⟩
    replace hh : Un (w6.alloc (Obj.cells #[Value.int .i64 t.a, Value.int .i64 t.b, Value.int .i64 t.c] 23)) [(w6.heap.size, t), (w5.heap.size, xy), (w4.heap.size, z), (w3.heap.size, y), (w2.heap.size, x), (w.heap.size + 1, b), (w.heap.size, a)] := (hh.below hB1).new t
    replace hB := (hB.trans (hB1.mono hB.size)).alloc (by have := hB.size; have := hB1.size; omega) (Obj.cells #[Value.int .i64 t.a, Value.int .i64 t.b, Value.int .i64 t.c] 23)
    clear hB1
    obtain ⟨x6a, x6b, x6c⟩ := (hh.get 6 _ _ rfl).three
    try dsimp only [u0, addU, sclU] at x6a x6b x6c
    go_wp2_with fail
    clear x6a x6b x6c
    refine (P5.out _).mono ?_
    rintro e w7 ⟨rfl, hB1⟩
    replace hh : Un (w7.alloc (Obj.cells #[Value.int .i64 u.a, Value.int .i64 u.b, Value.int .i64 u.c] 23)) [(w7.heap.size, u), (w6.heap.size, t), (w5.heap.size, xy), (w4.heap.size, z), (w3.heap.size, y), (w2.heap.size, x), (w.heap.size + 1, b), (w.heap.size, a)] := (hh.below hB1).new u
    replace hB := (hB.trans (hB1.mono hB.size)).alloc (by have := hB.size; have := hB1.size; omega) (Obj.cells #[Value.int .i64 u.a, Value.int .i64 u.b, Value.int .i64 u.c] 23)
    clear hB1
    go_upto_region 11 with fail
    generalize (w7.alloc (Obj.cells #[Value.int .i64 u.a, Value.int .i64 u.b, Value.int .i64 u.c] 23)) = v7 at hh hB ⊢
    go_cut [120] from 106 to 120 (fun s120 wx => s120 = .bool false ∧ v7 = wx)
    case first =>
      obtain ⟨x0a, x0b, x0c⟩ := (hh.get 0 _ _ rfl).three
      obtain ⟨x1a, x1b, x1c⟩ := (hh.get 1 _ _ rfl).three
      try dsimp only [u0, addU, sclU] at x0a x0b x0c x1a x1b x1c
      rcases Bool.eq_false_or_eq_true (e == 0) with ze | ze
      · skip
        rcases Bool.eq_false_or_eq_true (i == 0) with zi | zi
        · skip
          rcases Bool.eq_false_or_eq_true (j == 0) with zj | zj
          · skip
            have hq := L2.out ze zi zj
            rw [← hq] at x0a x0b x0c
            clear hq
            go_wp2_with fail
            go_meet
            case rel => exact ⟨by first | rfl | simp, rfl⟩
          · go_wp2_with fail
            go_meet
            case rel => exact ⟨by first | rfl | simp, rfl⟩
        · go_wp2_with fail
          go_meet
          case rel => exact ⟨by first | rfl | simp, rfl⟩
      · go_wp2_with fail
        go_meet
        case rel => exact ⟨by first | rfl | simp, rfl⟩
    case rest =>
      obtain ⟨rfl, rfl⟩ := hcut
      obtain ⟨x6a, x6b, x6c⟩ := (hh.get 6 _ _ rfl).three
      obtain ⟨x7a, x7b, x7c⟩ := (hh.get 7 _ _ rfl).three
      try dsimp only [u0, addU, sclU] at x6a x6b x6c x7a x7b x7c
      go_wp2_with fail
      clear x6a x6b x6c x7a x7b x7c
      refine (M2.out _).mono ?_
      rintro e w8 ⟨rfl, hB1⟩
      replace hh : Un (w8.alloc (Obj.cells #[Value.int .i64 ab.a, Value.int .i64 ab.b, Value.int .i64 ab.c] 23)) [(w8.heap.size, ab), (w7.heap.size, u), (w6.heap.size, t), (w5.heap.size, xy), (w4.heap.size, z), (w3.heap.size, y), (w2.heap.size, x), (w.heap.size + 1, b), (w.heap.size, a)] := (hh.below hB1).new ab
      replace hB := (hB.trans (hB1.mono hB.size)).alloc (by have := hB.size; have := hB1.size; omega) (Obj.cells #[Value.int .i64 ab.a, Value.int .i64 ab.b, Value.int .i64 ab.c] 23)
      clear hB1
      obtain ⟨x0a, x0b, x0c⟩ := (hh.get 0 _ _ rfl).three
      try dsimp only [u0, addU, sclU] at x0a x0b x0c
      go_wp2_with fail
      clear x0a x0b x0c
      refine (P6.out _).mono ?_
      rintro e w9 ⟨rfl, hB1⟩
      replace hh : Un (w9.alloc (Obj.cells #[Value.int .i64 p.a, Value.int .i64 p.b, Value.int .i64 p.c] 23)) [(w9.heap.size, p), (w8.heap.size, ab), (w7.heap.size, u), (w6.heap.size, t), (w5.heap.size, xy), (w4.heap.size, z), (w3.heap.size, y), (w2.heap.size, x), (w.heap.size + 1, b), (w.heap.size, a)] := (hh.below hB1).new p
      replace hB := (hB.trans (hB1.mono hB.size)).alloc (by have := hB.size; have := hB1.size; omega) (Obj.cells #[Value.int .i64 p.a, Value.int .i64 p.b, Value.int .i64 p.c] 23)
      clear hB1
      obtain ⟨x8a, x8b, x8c⟩ := (hh.get 8 _ _ rfl).three
      try dsimp only [u0, addU, sclU] at x8a x8b x8c
      go_wp2_with fail
      clear x8a x8b x8c
      refine (P7.out _).mono ?_
      rintro e w10 ⟨rfl, hB1⟩
      replace hh : Un (w10.alloc (Obj.cells #[Value.int .i64 q.a, Value.int .i64 q.b, Value.int .i64 q.c] 23)) [(w10.heap.size, q), (w9.heap.size, p), (w8.heap.size, ab), (w7.heap.size, u), (w6.heap.size, t), (w5.heap.size, xy), (w4.heap.size, z), (w3.heap.size, y), (w2.heap.size, x), (w.heap.size + 1, b), (w.heap.size, a)] := (hh.below hB1).new q
      replace hB := (hB.trans (hB1.mono hB.size)).alloc (by have := hB.size; have := hB1.size; omega) (Obj.cells #[Value.int .i64 q.a, Value.int .i64 q.b, Value.int .i64 q.c] 23)
      clear hB1
      obtain ⟨x0a, x0b, x0c⟩ := (hh.get 0 _ _ rfl).three
      obtain ⟨x8a, x8b, x8c⟩ := (hh.get 8 _ _ rfl).three
      try dsimp only [u0, addU, sclU] at x0a x0b x0c x8a x8b x8c
      go_wp2_with fail
      clear x0a x0b x0c x8a x8b x8c
      refine (M3.out _).mono ?_
      rintro e w11 ⟨rfl, hB1⟩
      replace hh : Un (w11.alloc (Obj.cells #[Value.int .i64 xq.a, Value.int .i64 xq.b, Value.int .i64 xq.c] 23)) [(w11.heap.size, xq), (w10.heap.size, q), (w9.heap.size, p), (w8.heap.size, ab), (w7.heap.size, u), (w6.heap.size, t), (w5.heap.size, xy), (w4.heap.size, z), (w3.heap.size, y), (w2.heap.size, x), (w.heap.size + 1, b), (w.heap.size, a)] := (hh.below hB1).new xq
      replace hB := (hB.trans (hB1.mono hB.size)).alloc (by have := hB.size; have := hB1.size; omega) (Obj.cells #[Value.int .i64 xq.a, Value.int .i64 xq.b, Value.int .i64 xq.c] 23)
      clear hB1
      go_upto_region 17 with fail
      generalize (w11.alloc (Obj.cells #[Value.int .i64 xq.a, Value.int .i64 xq.b, Value.int .i64 xq.c] 23)) = v11 at hh hB ⊢
      go_cut [167] from 145 to 167 (fun s167 wx => s167 = .bool false ∧ v11 = wx)
      case first =>
        obtain ⟨x0a, x0b, x0c⟩ := (hh.get 0 _ _ rfl).three
        obtain ⟨x2a, x2b, x2c⟩ := (hh.get 2 _ _ rfl).three
        try dsimp only [u0, addU, sclU] at x0a x0b x0c x2a x2b x2c
        rcases Bool.eq_false_or_eq_true (k == 0) with zk | zk
        · skip
          rcases Bool.eq_false_or_eq_true (l == 0) with zl | zl
          · skip
            rcases Bool.eq_false_or_eq_true (e == 0) with ze | ze
            · skip
              rcases Bool.eq_false_or_eq_true (o == 0) with zo | zo
              · skip
                rcases Bool.eq_false_or_eq_true (r == 0) with zr | zr
                · skip
                  have hq := L3.out zk zl ze zo zr
                  rw [← hq] at x0a x0b x0c
                  clear hq
                  go_wp2_with fail
                  go_meet
                  case rel => exact ⟨by first | rfl | simp, rfl⟩
                · go_wp2_with fail
                  go_meet
                  case rel => exact ⟨by first | rfl | simp, rfl⟩
              · go_wp2_with fail
                go_meet
                case rel => exact ⟨by first | rfl | simp, rfl⟩
            · go_wp2_with fail
              go_meet
              case rel => exact ⟨by first | rfl | simp, rfl⟩
          · go_wp2_with fail
            go_meet
            case rel => exact ⟨by first | rfl | simp, rfl⟩
        · go_wp2_with fail
          go_meet
          case rel => exact ⟨by first | rfl | simp, rfl⟩
      case rest =>
        obtain ⟨rfl, rfl⟩ := hcut
        obtain ⟨x11a, x11b, x11c⟩ := (hh.get 11 _ _ rfl).three
        try dsimp only [u0, addU, sclU] at x11a x11b x11c
        go_wp2_with fail
        clear x11a x11b x11c
        refine (P8.out _).mono ?_
        rintro e w12 ⟨rfl, hB1⟩
        replace hh : Un (w12.alloc (Obj.cells #[Value.int .i64 0, Value.int .i64 0, Value.int .i64 0] 23)) [(w12.heap.size, u0), (w11.heap.size, xq), (w10.heap.size, q), (w9.heap.size, p), (w8.heap.size, ab), (w7.heap.size, u), (w6.heap.size, t), (w5.heap.size, xy), (w4.heap.size, z), (w3.heap.size, y), (w2.heap.size, x), (w.heap.size + 1, b), (w.heap.size, a)] := (hh.below hB1).new u0
        replace hB := (hB.trans (hB1.mono hB.size)).alloc (by have := hB.size; have := hB1.size; omega) (Obj.cells #[Value.int .i64 0, Value.int .i64 0, Value.int .i64 0] 23)
        clear hB1
        obtain ⟨x12a, x12b, x12c⟩ := (hh.get 12 _ _ rfl).three
        try dsimp only [u0, addU, sclU] at x12a x12b x12c
        go_wp2_with fail
        clear x12a x12b x12c
        refine (P9.out _).mono ?_
        rintro e w13 ⟨rfl, hB1⟩
        replace hh : Un (w13.alloc (Obj.cells #[Value.int .i64 0, Value.int .i64 0, Value.int .i64 0] 23)) [(w13.heap.size, u0), (w12.heap.size, u0), (w11.heap.size, xq), (w10.heap.size, q), (w9.heap.size, p), (w8.heap.size, ab), (w7.heap.size, u), (w6.heap.size, t), (w5.heap.size, xy), (w4.heap.size, z), (w3.heap.size, y), (w2.heap.size, x), (w.heap.size + 1, b), (w.heap.size, a)] := (hh.below hB1).new u0
        replace hB := (hB.trans (hB1.mono hB.size)).alloc (by have := hB.size; have := hB1.size; omega) (Obj.cells #[Value.int .i64 0, Value.int .i64 0, Value.int .i64 0] 23)
        clear hB1
        obtain ⟨x13a, x13b, x13c⟩ := (hh.get 13 _ _ rfl).three
        try dsimp only [u0, addU, sclU] at x13a x13b x13c
        go_wp2_with fail
        clear x13a x13b x13c
        refine (HT.out _).mono ?_
        rintro e w14 ⟨rfl, hB1⟩
        replace hh := hh.below hB1
        replace hB := hB.trans (hB1.mono hB.size)
        clear hB1
        obtain ⟨x0a, x0b, x0c⟩ := (hh.get 0 _ _ rfl).three
        obtain ⟨x1a, x1b, x1c⟩ := (hh.get 1 _ _ rfl).three
        obtain ⟨x13a, x13b, x13c⟩ := (hh.get 13 _ _ rfl).three
        try dsimp only [u0, addU, sclU] at x0a x0b x0c x1a x1b x1c x13a x13b x13c
        go_wp2_with fail
        clear x0a x0b x0c x1a x1b x1c x13a x13b x13c
        go_ret
        exact ⟨ret_bool (by first | rfl | simp | (simp [*])), hB⟩
theorem powers_fin (a b : U) (rn rm : Int) (w : World) (_h0 : UnitWf a) (_h1 : UnitWf b) (h2 : (Lit.int .u8 rn).wf = true) (h3 : (Lit.int .u8 rm).wf = true) (hL : LayU w) : Calls Tryd.prog 5 #[uV a, uV b, .int .u8 rn, .int .u8 rm] w fun e w' => e = .returned (.bool true) ∧ Below w.heap.size w w' := by
  have b2 := u8_bd h2
  have b3 := u8_bd h3
  cases ha : vB a with
  | false => exact powers_bad a b rn rm w hL b2 b3 ha
  | true => exact powers_good a b rn rm w hL b2 b3 ha
end Go.Proofs.YtmfoincmjpogmaaDoor
