/- unit: the reference: Valid, Mul, Power -/
import Derived.Test.YtmfoincmjpogmaaDoorUnitOpen
namespace Go.Proofs.YtmfoincmjpogmaaDoor
open Go.RowKit

theorem rexp_any (n : Int) (w : World) : Calls Tryd.prog 30 #[.int .i64 n] w fun e w' => e = .returned (.bool (inB n)) ∧ w = w' := by
  unfold inB
  by_cases h1 : -8 ≤ n
  · by_cases h2 : n ≤ 8
    · rw [decide_eq_true ⟨h1, h2⟩]
      go_enter Tryd.func30, Tryd.ntmps30
      go_wp2_with fail
      go_ret
      exact ⟨ret_bool (by first | rfl | simp), rfl⟩
    · rw [decide_eq_false (fun h => h2 h.2)]
      go_enter Tryd.func30, Tryd.ntmps30
      go_wp2_with fail
      go_ret
      exact ⟨ret_bool (by first | rfl | (simp; done) | (simp; omega)), rfl⟩
  · rw [decide_eq_false (fun h => h1 h.1)]
    go_enter Tryd.func30, Tryd.ntmps30
    go_wp2_with fail
    go_ret
    exact ⟨ret_bool (by first | rfl | (simp; done) | (simp; omega)), rfl⟩
theorem unit_worldR (u : U) (w : World) : ∃ w0 : World, (w.alloc (.cells #[.int .i64 u.a, .int .i64 u.b, .int .i64 u.c] 23)) = w0 ∧ Un w0 [(w.heap.size, u)] ∧ Below w.heap.size w w0 :=
  ⟨_, rfl, (Un.nil w).new u, below_alloc w _⟩
theorem rvalid_any (u : U) (w : World) : Calls Tryd.prog 22 #[uV u] w fun e w' => e = .returned (.bool (vB u)) ∧ Below w.heap.size w w' := by
  have H1 := hid (fun w => rexp_any u.a w)
  have H2 := hid (fun w => rexp_any u.b w)
  have H3 := hid (fun w => rexp_any u.c w)
  have hv : vB u = (inB u.a && (inB u.b && inB u.c)) := by unfold vB; rw [Bool.and_assoc]
  rw [hv]
  clear hv
  generalize inB u.a = b1 at *
  generalize inB u.b = b2 at *
  generalize inB u.c = b3 at *
  unfold uV
  go_enter Tryd.func22, Tryd.ntmps22
  go_wp2_with fail
  obtain ⟨w0, hw0, hh, hB⟩ := unit_worldR u w
  rw [hw0]
  clear hw0
  obtain ⟨xa, xb, xc⟩ := (hh.get 0 _ _ rfl).three
  clear hh
  refine (H1.out _).mono ?_
  rintro e w' ⟨rfl, rfl⟩
  cases b1 with
  | false =>
    go_wp2_with fail
    go_ret
    exact ⟨ret_bool (by first | rfl | simp), hB⟩
  | true =>
    go_wp2_with fail
    refine (H2.out _).mono ?_
    rintro e w' ⟨rfl, rfl⟩
    cases b2 with
    | false =>
      go_wp2_with fail
      go_ret
      exact ⟨ret_bool (by first | rfl | simp), hB⟩
    | true =>
      go_wp2_with fail
      refine (H3.out _).mono ?_
      rintro e w' ⟨rfl, rfl⟩
      go_wp2_with fail
      go_ret
      exact ⟨ret_bool (by first | rfl | simp), hB⟩
theorem rvalid_is {u : U} {r : Bool} (h : vB u = r) (w : World) : Calls Tryd.prog 22 #[uV u] w fun e w' => e = .returned (.bool r) ∧ Below w.heap.size w w' := by
  subst h; exact rvalid_any u w
theorem rmul_world (a b : U) (w : World) : ∃ w0 : World, (((w.alloc (.cells #[.int .i64 a.a, .int .i64 a.b, .int .i64 a.c] 23)).alloc (.cells #[.int .i64 b.a, .int .i64 b.b, .int .i64 b.c] 23)).alloc (.cells #[.int .i64 0, .int .i64 0, .int .i64 0] 23)) = w0 ∧ Un w0 [(w.heap.size + 1 + 1, u0), (w.heap.size + 1, b), (w.heap.size, a)] ∧ Below w.heap.size w w0 := by
  refine ⟨_, rfl, ?_, ((below_alloc w _).alloc (by simp) _).alloc (by simp; omega) _⟩
  have := (((Un.nil w).new a).new b).new u0
  simp only [World.size_alloc] at this
  exact this
theorem rpow_world (a : U) (w : World) : ∃ w0 : World, ((w.alloc (.cells #[.int .i64 a.a, .int .i64 a.b, .int .i64 a.c] 23)).alloc (.cells #[.int .i64 0, .int .i64 0, .int .i64 0] 23)) = w0 ∧ Un w0 [(w.heap.size + 1, u0), (w.heap.size, a)] ∧ Below w.heap.size w w0 := by
  refine ⟨_, rfl, ?_, (below_alloc w _).alloc (by simp) _⟩
  have := ((Un.nil w).new a).new u0
  simp only [World.size_alloc] at this
  exact this

set_option maxHeartbeats 2000000 in
set_option maxRecDepth 100000 in
theorem rmul_any (a b : U) (w : World) : Calls Tryd.prog 10 #[uV a, uV b] w fun e w' => e = .returned (.tuple #[uV (mulU a b), .int .i64 (mulE a b)]) ∧ Below w.heap.size w w' := by
  cases ha : vB a with
  | false =>
    have hm := mul_arg (b := b) ha
    rw [hm.1, hm.2]
    have V1 := hid (fun w => rvalid_is ha w)
    clear hm ha
    unfold uV at *
    go_enter Tryd.func10, Tryd.ntmps10  ;go_wp2_with fail  ;obtain ⟨w0, hw0, hh, hB⟩ := rmul_world a b w  ;rw [hw0]  ;clear hw0  ;generalize hrb : w.heap.size + 1 + 1 = rb at *  ;have hrbB : w.heap.size ≤ rb := (by omega)  ;clear hrb  ;refine (V1.out _).mono ?_  ;rintro e w1 ⟨rfl, hB1⟩  ;replace hh := hh.below hB1  ;replace hB := hB.trans (hB1.mono hB.size)  ;clear hB1
    have hrr := hh.get 0 _ _ rfl
    go_wp2_with (refine wpList_store_row rfl 23 _ _ rfl rb _ rfl rfl 23 _ hrr (by kernel_rfl) rfl (by first | (simp [Value.oneCell']; done) | (simp [Value.oneCell', uCells]; done)) ?_)
    (try simp only [Exit.inBlock, Exit.then]); refine bodyPost_ret (results_row2 rfl _ _ rb 23 _ _ rfl (setRow_heap _ _ _ _ _ _ hrr) Tryd.underlying23 rfl (by kernel_rfl)) rfl ?_
    exact ⟨rfl, below_setRow hB hrbB _⟩
  | true =>
    cases hb : vB b with
    | false =>
      have hm := mul_arg (b := a) hb
      rw [(mul_comm a b).1, (mul_comm a b).2, hm.1, hm.2]
      have V1 := hid (fun w => rvalid_is ha w)
      have V2 := hid (fun w => rvalid_is hb w)
      clear hm ha hb
      unfold uV at *
      go_enter Tryd.func10, Tryd.ntmps10  ;go_wp2_with fail  ;obtain ⟨w0, hw0, hh, hB⟩ := rmul_world a b w  ;rw [hw0]  ;clear hw0  ;generalize hrb : w.heap.size + 1 + 1 = rb at *  ;have hrbB : w.heap.size ≤ rb := (by omega)  ;clear hrb  ;refine (V1.out _).mono ?_  ;rintro e w1 ⟨rfl, hB1⟩  ;replace hh := hh.below hB1  ;replace hB := hB.trans (hB1.mono hB.size)  ;clear hB1
      obtain ⟨xa, xb, xc⟩ := (hh.get 1 _ _ rfl).three
      go_wp2_with fail
      refine (V2.out _).mono ?_
      rintro e w2 ⟨rfl, hB1⟩
      replace hh := hh.below hB1
      replace hB := hB.trans (hB1.mono hB.size)
      clear hB1 xa xb xc
      have hrr := hh.get 0 _ _ rfl
      go_wp2_with (refine wpList_store_row rfl 23 _ _ rfl rb _ rfl rfl 23 _ hrr (by kernel_rfl) rfl (by first | (simp [Value.oneCell']; done) | (simp [Value.oneCell', uCells]; done)) ?_)
      (try simp only [Exit.inBlock, Exit.then]); refine bodyPost_ret (results_row2 rfl _ _ rb 23 _ _ rfl (setRow_heap _ _ _ _ _ _ hrr) Tryd.underlying23 rfl (by kernel_rfl)) rfl ?_
      exact ⟨rfl, below_setRow hB hrbB _⟩
    | true =>
      obtain ⟨⟨u1, u2⟩, ⟨u3, u4⟩, u5, u6⟩ := (vB_iff a).1 ha
      obtain ⟨⟨v1, v2⟩, ⟨v3, v4⟩, v5, v6⟩ := (vB_iff b).1 hb
      have V1 := hid (fun w => rvalid_is ha w)
      have V2 := hid (fun w => rvalid_is hb w)
      cases hs : vB (addU a b) with
      | true =>
        have hz : mulE a b = 0 := mulE_zero.2 ⟨ha, hb, hs⟩
        rw [mulU_ok hz, hz]
        have V3 := hid (fun w => rvalid_is hs w)
        clear ha hb hs hz
        unfold uV addU at *
        dsimp only at *
        go_enter Tryd.func10, Tryd.ntmps10  ;go_wp2_with fail  ;obtain ⟨w0, hw0, hh, hB⟩ := rmul_world a b w  ;rw [hw0]  ;clear hw0  ;generalize hrb : w.heap.size + 1 + 1 = rb at *  ;have hrbB : w.heap.size ≤ rb := (by omega)  ;clear hrb  ;refine (V1.out _).mono ?_  ;rintro e w1 ⟨rfl, hB1⟩  ;replace hh := hh.below hB1  ;replace hB := hB.trans (hB1.mono hB.size)  ;clear hB1
        obtain ⟨xa, xb, xc⟩ := (hh.get 1 _ _ rfl).three
        obtain ⟨ya, yb, yc⟩ := (hh.get 2 _ _ rfl).three
        go_wp2_with fail
        refine (V2.out _).mono ?_
        rintro e w2 ⟨rfl, hB1⟩
        replace hh := hh.below hB1
        replace hB := hB.trans (hB1.mono hB.size)
        clear hB1 xa xb xc ya yb yc
        obtain ⟨xa, xb, xc⟩ := (hh.get 1 _ _ rfl).three
        obtain ⟨ya, yb, yc⟩ := (hh.get 2 _ _ rfl).three
        go_wp2_with fail
        replace hh : Un (w2.alloc (.cells #[.int .i64 (a.a + b.a), .int .i64 (a.b + b.b), .int .i64 (a.c + b.c)] 23)) _ := hh.new ⟨a.a + b.a, a.b + b.b, a.c + b.c⟩
        replace hB := hB.alloc hB.size (.cells #[.int .i64 (a.a + b.a), .int .i64 (a.b + b.b), .int .i64 (a.c + b.c)] 23)
        refine (V3.out _).mono ?_
        rintro e w3 ⟨rfl, hB1⟩
        replace hh := hh.below hB1
        replace hB := hB.trans (hB1.mono hB.size)
        clear hB1 xa xb xc ya yb yc
        have hub := hh.get 0 _ _ rfl
        have hrr := hh.get 1 _ _ rfl
        generalize w2.heap.size = ub at *
        go_wp2_with (first | (refine wpList_load_row rfl 23 _ rfl ub rfl 23 _ (0, 0) _ hub Tryd.underlying23 rfl (by kernel_rfl) ?_) | (refine wpList_store_row rfl 23 _ _ rfl rb _ rfl rfl 23 _ hrr (by kernel_rfl) rfl (by first | (simp [Value.oneCell']; done) | (simp [Value.oneCell', uCells]; done)) ?_))
        (try simp only [Exit.inBlock, Exit.then]); refine bodyPost_ret (results_row2 rfl _ _ rb 23 _ _ rfl (setRow_heap _ _ _ _ _ _ hrr) Tryd.underlying23 rfl (by kernel_rfl)) rfl ?_
        exact ⟨rfl, below_setRow hB hrbB _⟩
      | false =>
        have hz : mulE a b = 9 ∧ mulU a b = u0 := by unfold mulE mulU; rw [ha, hb, hs]; exact ⟨rfl, rfl⟩
        rw [hz.1, hz.2]
        have V3 := hid (fun w => rvalid_is hs w)
        clear ha hb hs hz
        unfold uV addU at *
        dsimp only at V3
        go_enter Tryd.func10, Tryd.ntmps10  ;go_wp2_with fail  ;obtain ⟨w0, hw0, hh, hB⟩ := rmul_world a b w  ;rw [hw0]  ;clear hw0  ;generalize hrb : w.heap.size + 1 + 1 = rb at *  ;have hrbB : w.heap.size ≤ rb := (by omega)  ;clear hrb  ;refine (V1.out _).mono ?_  ;rintro e w1 ⟨rfl, hB1⟩  ;replace hh := hh.below hB1  ;replace hB := hB.trans (hB1.mono hB.size)  ;clear hB1
        obtain ⟨xa, xb, xc⟩ := (hh.get 1 _ _ rfl).three
        obtain ⟨ya, yb, yc⟩ := (hh.get 2 _ _ rfl).three
        go_wp2_with fail
        refine (V2.out _).mono ?_
        rintro e w2 ⟨rfl, hB1⟩
        replace hh := hh.below hB1
        replace hB := hB.trans (hB1.mono hB.size)
        clear hB1 xa xb xc ya yb yc
        obtain ⟨xa, xb, xc⟩ := (hh.get 1 _ _ rfl).three
        obtain ⟨ya, yb, yc⟩ := (hh.get 2 _ _ rfl).three
        go_wp2_with fail
        replace hh : Un (w2.alloc (.cells #[.int .i64 (a.a + b.a), .int .i64 (a.b + b.b), .int .i64 (a.c + b.c)] 23)) _ := hh.new ⟨a.a + b.a, a.b + b.b, a.c + b.c⟩
        replace hB := hB.alloc hB.size (.cells #[.int .i64 (a.a + b.a), .int .i64 (a.b + b.b), .int .i64 (a.c + b.c)] 23)
        refine (V3.out _).mono ?_
        rintro e w3 ⟨rfl, hB1⟩
        replace hh := hh.below hB1
        replace hB := hB.trans (hB1.mono hB.size)
        clear hB1 xa xb xc ya yb yc
        have hrr := hh.get 1 _ _ rfl
        go_wp2_with (refine wpList_store_row rfl 23 _ _ rfl rb _ rfl rfl 23 _ hrr (by kernel_rfl) rfl (by first | (simp [Value.oneCell']; done) | (simp [Value.oneCell', uCells]; done)) ?_)
        (try simp only [Exit.inBlock, Exit.then]); refine bodyPost_ret (results_row2 rfl _ _ rb 23 _ _ rfl (setRow_heap _ _ _ _ _ _ hrr) Tryd.underlying23 rfl (by kernel_rfl)) rfl ?_
        exact ⟨rfl, below_setRow hB hrbB _⟩

set_option maxHeartbeats 2000000 in
set_option maxRecDepth 100000 in
theorem rpow_bad (a : U) (n : Int) (w : World) (ha : vB a = false) : Calls Tryd.prog 12 #[uV a, .int .i64 n] w fun e w' => e = .returned (.tuple #[uV u0, .int .i64 1]) ∧ Below w.heap.size w w' := by
  have V1 := hid (fun w => rvalid_is ha w)
  clear ha
  unfold uV at *
  go_enter Tryd.func12, Tryd.ntmps12  ;go_wp2_with fail  ;obtain ⟨w0, hw0, hh, hB⟩ := rpow_world a w  ;rw [hw0]  ;clear hw0  ;generalize hrb : w.heap.size + 1 = rb at *  ;have hrbB : w.heap.size ≤ rb := (by omega)  ;clear hrb  ;refine (V1.out _).mono ?_  ;rintro e w1 ⟨rfl, hB1⟩  ;replace hh := hh.below hB1  ;replace hB := hB.trans (hB1.mono hB.size)  ;clear hB1
  have hrr := hh.get 0 _ _ rfl
  go_wp2_with (refine wpList_store_row rfl 23 _ _ rfl rb _ rfl rfl 23 _ hrr (by kernel_rfl) rfl (by first | (simp [Value.oneCell']; done) | (simp [Value.oneCell', uCells]; done)) ?_)
  (try simp only [Exit.inBlock, Exit.then]); refine bodyPost_ret (results_row2 rfl _ _ rb 23 _ _ rfl (setRow_heap _ _ _ _ _ _ hrr) Tryd.underlying23 rfl (by kernel_rfl)) rfl ?_
  exact ⟨rfl, below_setRow hB hrbB _⟩
set_option maxHeartbeats 2000000 in
set_option maxRecDepth 100000 in
theorem rpow_zero (n : Int) (w : World) : Calls Tryd.prog 12 #[uV u0, .int .i64 n] w fun e w' => e = .returned (.tuple #[uV u0, .int .i64 0]) ∧ Below w.heap.size w w' := by
  have V1 := hid (fun w => rvalid_is vB_u0 w)
  obtain ⟨a, ha⟩ : ∃ a, u0 = a := ⟨_, rfl⟩
  unfold uV u0 at *
  dsimp only at *
  go_enter Tryd.func12, Tryd.ntmps12
  go_wp2_with fail
  obtain ⟨w0, hw0, hh, hB⟩ := rpow_world u0 w
  unfold u0 at hw0
  dsimp only at hw0
  rw [hw0]
  clear hw0
  generalize hrb : w.heap.size + 1 = rb at *
  have hrbB : w.heap.size ≤ rb := by omega
  clear hrb
  refine (V1.out _).mono ?_
  rintro e w1 ⟨rfl, hB1⟩
  replace hh := hh.below hB1
  replace hB := hB.trans (hB1.mono hB.size)
  clear hB1
  have hrr := hh.get 0 _ _ rfl
  have hub : Blk w1 w.heap.size 23 [.int .i64 0, .int .i64 0, .int .i64 0] := hh.get 1 _ _ rfl
  obtain ⟨xzero, xb, xc⟩ := (hh.get 1 _ _ rfl).three
  try dsimp only [u0] at xzero xb xc
  generalize hue : w.heap.size = ub at hub xzero xb xc ⊢
  clear hue
  go_wp2_with (first | (refine wpList_load_row rfl 23 _ rfl ub rfl 23 _ (0, 0) _ hub Tryd.underlying23 rfl (by kernel_rfl) ?_) | (refine wpList_store_row rfl 23 _ _ rfl rb _ rfl rfl 23 _ hrr (by kernel_rfl) rfl (by first | (simp [Value.oneCell']; done) | (simp [Value.oneCell', uCells]; done)) ?_))
  (try simp only [Exit.inBlock, Exit.then]); refine bodyPost_ret (results_row2 rfl _ _ rb 23 _ _ rfl (setRow_heap _ _ _ _ _ _ hrr) Tryd.underlying23 rfl (by kernel_rfl)) rfl ?_
  exact ⟨rfl, below_setRow hB hrbB _⟩
--BEGIN
set_option maxHeartbeats 2000000 in
set_option maxRecDepth 100000 in
theorem rpow_A_lo (x y z n : Int) (w : World) (hv : vB (⟨x, y, z⟩ : U) = true) (hne : ¬ x = 0) (hn : n < -8) : Calls Tryd.prog 12 #[uV (⟨x, y, z⟩ : U), .int .i64 n] w fun e w' => e = .returned (.tuple #[uV u0, .int .i64 9]) ∧ Below w.heap.size w w' := by
  have V1 := hid (fun w => rvalid_is hv w)
  clear hv
  obtain ⟨a, ha⟩ : ∃ a, (⟨x, y, z⟩ : U) = a := ⟨_, rfl⟩
  clear ha a
  unfold uV at *
  try dsimp only [sclU, u0] at *
  go_enter Tryd.func12, Tryd.ntmps12
  go_wp2_with fail
  obtain ⟨w0, hw0, hh, hB⟩ := rpow_world (⟨x, y, z⟩ : U) w
  try dsimp only at hw0
  rw [hw0]
  clear hw0
  generalize hrb : w.heap.size + 1 = rb at *
  have hrbB : w.heap.size ≤ rb := by omega
  clear hrb
  refine (V1.out _).mono ?_
  rintro e w1 ⟨rfl, hB1⟩
  replace hh := hh.below hB1
  replace hB := hB.trans (hB1.mono hB.size)
  clear hB1
  obtain ⟨xa, xb, xc⟩ := (hh.get 1 _ _ rfl).three
  try dsimp only at xa xb xc
  have hrr := hh.get 0 _ _ rfl
  go_wp2_with (refine wpList_store_row rfl 23 _ _ rfl rb _ rfl rfl 23 _ hrr (by kernel_rfl) rfl (by first | (simp [Value.oneCell']; done) | (simp [Value.oneCell', uCells]; done)) ?_)
  (try simp only [Exit.inBlock, Exit.then]); refine bodyPost_ret (results_row2 rfl _ _ rb 23 _ _ rfl (setRow_heap _ _ _ _ _ _ hrr) Tryd.underlying23 rfl (by kernel_rfl)) rfl ?_
  exact ⟨rfl, below_setRow hB hrbB _⟩
set_option maxHeartbeats 2000000 in
set_option maxRecDepth 100000 in
theorem rpow_A_hi (x y z n : Int) (w : World) (hv : vB (⟨x, y, z⟩ : U) = true) (hne : ¬ x = 0) (hn : 8 < n) : Calls Tryd.prog 12 #[uV (⟨x, y, z⟩ : U), .int .i64 n] w fun e w' => e = .returned (.tuple #[uV u0, .int .i64 9]) ∧ Below w.heap.size w w' := by
  have V1 := hid (fun w => rvalid_is hv w)
  clear hv
  have hn2 : ¬ n < -8 := by omega
  obtain ⟨a, ha⟩ : ∃ a, (⟨x, y, z⟩ : U) = a := ⟨_, rfl⟩
  clear ha a
  unfold uV at *
  try dsimp only [sclU, u0] at *
  go_enter Tryd.func12, Tryd.ntmps12
  go_wp2_with fail
  obtain ⟨w0, hw0, hh, hB⟩ := rpow_world (⟨x, y, z⟩ : U) w
  try dsimp only at hw0
  rw [hw0]
  clear hw0
  generalize hrb : w.heap.size + 1 = rb at *
  have hrbB : w.heap.size ≤ rb := by omega
  clear hrb
  refine (V1.out _).mono ?_
  rintro e w1 ⟨rfl, hB1⟩
  replace hh := hh.below hB1
  replace hB := hB.trans (hB1.mono hB.size)
  clear hB1
  obtain ⟨xa, xb, xc⟩ := (hh.get 1 _ _ rfl).three
  try dsimp only at xa xb xc
  have hrr := hh.get 0 _ _ rfl
  go_wp2_with (refine wpList_store_row rfl 23 _ _ rfl rb _ rfl rfl 23 _ hrr (by kernel_rfl) rfl (by first | (simp [Value.oneCell']; done) | (simp [Value.oneCell', uCells]; done)) ?_)
  (try simp only [Exit.inBlock, Exit.then]); refine bodyPost_ret (results_row2 rfl _ _ rb 23 _ _ rfl (setRow_heap _ _ _ _ _ _ hrr) Tryd.underlying23 rfl (by kernel_rfl)) rfl ?_
  exact ⟨rfl, below_setRow hB hrbB _⟩
set_option maxHeartbeats 2000000 in
set_option maxRecDepth 100000 in
theorem rpow_A_yes (x y z n : Int) (w : World) (hv : vB (⟨x, y, z⟩ : U) = true) (hne : ¬ x = 0) (hn1 : -8 ≤ n) (hn2 : n ≤ 8) (hs : vB (⟨x * n, y * n, z * n⟩ : U) = true) : Calls Tryd.prog 12 #[uV (⟨x, y, z⟩ : U), .int .i64 n] w fun e w' => e = .returned (.tuple #[uV (⟨x * n, y * n, z * n⟩ : U), .int .i64 0]) ∧ Below w.heap.size w w' := by
  have V1 := hid (fun w => rvalid_is hv w)
  have V2 := hid (fun w => rvalid_is hs w)
  obtain ⟨b1, b2, b3⟩ := (vB_iff _).1 hv
  obtain ⟨m1, k1⟩ := mul_bd b1.1 b1.2 (show -9 ≤ n by omega) (show n ≤ 9 by omega)
  obtain ⟨m2, k2⟩ := mul_bd b2.1 b2.2 (show -9 ≤ n by omega) (show n ≤ 9 by omega)
  obtain ⟨m3, k3⟩ := mul_bd b3.1 b3.2 (show -9 ≤ n by omega) (show n ≤ 9 by omega)
  try dsimp only at m1 k1 m2 k2 m3 k3
  clear hv hs b1 b2 b3
  unfold uV at *
  try dsimp only [sclU, u0] at V2 ⊢
  go_enter Tryd.func12, Tryd.ntmps12
  go_wp2_with fail
  obtain ⟨w0, hw0, hh, hB⟩ := rpow_world (⟨x, y, z⟩ : U) w
  try dsimp only at hw0
  rw [hw0]
  clear hw0
  generalize hrb : w.heap.size + 1 = rb at *
  have hrbB : w.heap.size ≤ rb := by omega
  clear hrb
  refine (V1.out _).mono ?_
  rintro e w1 ⟨rfl, hB1⟩
  replace hh := hh.below hB1
  replace hB := hB.trans (hB1.mono hB.size)
  clear hB1
  obtain ⟨xa, xb, xc⟩ := (hh.get 1 _ _ rfl).three
  try dsimp only at xa xb xc
  go_wp2_with fail
  replace hh : Un (w1.alloc (.cells #[.int .i64 (x * n), .int .i64 (y * n), .int .i64 (z * n)] 23)) _ := hh.new ⟨x * n, y * n, z * n⟩
  replace hB := hB.alloc hB.size (.cells #[.int .i64 (x * n), .int .i64 (y * n), .int .i64 (z * n)] 23)
  refine (V2.out _).mono ?_
  rintro e w3 ⟨rfl, hB1⟩
  replace hh := hh.below hB1
  replace hB := hB.trans (hB1.mono hB.size)
  clear hB1 xa xb xc
  have hub := hh.get 0 _ _ rfl
  have hrr := hh.get 1 _ _ rfl
  generalize w1.heap.size = ub at *
  go_wp2_with (first | (refine wpList_load_row rfl 23 _ rfl ub rfl 23 _ (0, 0) _ hub Tryd.underlying23 rfl (by kernel_rfl) ?_) | (refine wpList_store_row rfl 23 _ _ rfl rb _ rfl rfl 23 _ hrr (by kernel_rfl) rfl (by first | (simp [Value.oneCell']; done) | (simp [Value.oneCell', uCells]; done)) ?_))
  (try simp only [Exit.inBlock, Exit.then]); refine bodyPost_ret (results_row2 rfl _ _ rb 23 _ _ rfl (setRow_heap _ _ _ _ _ _ hrr) Tryd.underlying23 rfl (by kernel_rfl)) rfl ?_
  exact ⟨rfl, below_setRow hB hrbB _⟩
set_option maxHeartbeats 2000000 in
set_option maxRecDepth 100000 in
theorem rpow_A_no (x y z n : Int) (w : World) (hv : vB (⟨x, y, z⟩ : U) = true) (hne : ¬ x = 0) (hn1 : -8 ≤ n) (hn2 : n ≤ 8) (hs : vB (⟨x * n, y * n, z * n⟩ : U) = false) : Calls Tryd.prog 12 #[uV (⟨x, y, z⟩ : U), .int .i64 n] w fun e w' => e = .returned (.tuple #[uV u0, .int .i64 9]) ∧ Below w.heap.size w w' := by
  have V1 := hid (fun w => rvalid_is hv w)
  have V2 := hid (fun w => rvalid_is hs w)
  obtain ⟨b1, b2, b3⟩ := (vB_iff _).1 hv
  obtain ⟨m1, k1⟩ := mul_bd b1.1 b1.2 (show -9 ≤ n by omega) (show n ≤ 9 by omega)
  obtain ⟨m2, k2⟩ := mul_bd b2.1 b2.2 (show -9 ≤ n by omega) (show n ≤ 9 by omega)
  obtain ⟨m3, k3⟩ := mul_bd b3.1 b3.2 (show -9 ≤ n by omega) (show n ≤ 9 by omega)
  try dsimp only at m1 k1 m2 k2 m3 k3
  clear hv hs b1 b2 b3
  unfold uV at *
  try dsimp only [sclU, u0] at V2 ⊢
  go_enter Tryd.func12, Tryd.ntmps12
  go_wp2_with fail
  obtain ⟨w0, hw0, hh, hB⟩ := rpow_world (⟨x, y, z⟩ : U) w
  try dsimp only at hw0
  rw [hw0]
  clear hw0
  generalize hrb : w.heap.size + 1 = rb at *
  have hrbB : w.heap.size ≤ rb := by omega
  clear hrb
  refine (V1.out _).mono ?_
  rintro e w1 ⟨rfl, hB1⟩
  replace hh := hh.below hB1
  replace hB := hB.trans (hB1.mono hB.size)
  clear hB1
  obtain ⟨xa, xb, xc⟩ := (hh.get 1 _ _ rfl).three
  try dsimp only at xa xb xc
  go_wp2_with fail
  replace hh : Un (w1.alloc (.cells #[.int .i64 (x * n), .int .i64 (y * n), .int .i64 (z * n)] 23)) _ := hh.new ⟨x * n, y * n, z * n⟩
  replace hB := hB.alloc hB.size (.cells #[.int .i64 (x * n), .int .i64 (y * n), .int .i64 (z * n)] 23)
  refine (V2.out _).mono ?_
  rintro e w3 ⟨rfl, hB1⟩
  replace hh := hh.below hB1
  replace hB := hB.trans (hB1.mono hB.size)
  clear hB1 xa xb xc
  have hub := hh.get 0 _ _ rfl
  have hrr := hh.get 1 _ _ rfl
  generalize w1.heap.size = ub at *
  go_wp2_with (first | (refine wpList_load_row rfl 23 _ rfl ub rfl 23 _ (0, 0) _ hub Tryd.underlying23 rfl (by kernel_rfl) ?_) | (refine wpList_store_row rfl 23 _ _ rfl rb _ rfl rfl 23 _ hrr (by kernel_rfl) rfl (by first | (simp [Value.oneCell']; done) | (simp [Value.oneCell', uCells]; done)) ?_))
  (try simp only [Exit.inBlock, Exit.then]); refine bodyPost_ret (results_row2 rfl _ _ rb 23 _ _ rfl (setRow_heap _ _ _ _ _ _ hrr) Tryd.underlying23 rfl (by kernel_rfl)) rfl ?_
  exact ⟨rfl, below_setRow hB hrbB _⟩
set_option maxHeartbeats 2000000 in
set_option maxRecDepth 100000 in
theorem rpow_B_lo (y z n : Int) (w : World) (hv : vB (⟨0, y, z⟩ : U) = true) (hne : ¬ y = 0) (hn : n < -8) : Calls Tryd.prog 12 #[uV (⟨0, y, z⟩ : U), .int .i64 n] w fun e w' => e = .returned (.tuple #[uV u0, .int .i64 9]) ∧ Below w.heap.size w w' := by
  have V1 := hid (fun w => rvalid_is hv w)
  clear hv
  obtain ⟨a, ha⟩ : ∃ a, (⟨0, y, z⟩ : U) = a := ⟨_, rfl⟩
  clear ha a
  unfold uV at *
  try dsimp only [sclU, u0] at *
  go_enter Tryd.func12, Tryd.ntmps12
  go_wp2_with fail
  obtain ⟨w0, hw0, hh, hB⟩ := rpow_world (⟨0, y, z⟩ : U) w
  try dsimp only at hw0
  rw [hw0]
  clear hw0
  generalize hrb : w.heap.size + 1 = rb at *
  have hrbB : w.heap.size ≤ rb := by omega
  clear hrb
  refine (V1.out _).mono ?_
  rintro e w1 ⟨rfl, hB1⟩
  replace hh := hh.below hB1
  replace hB := hB.trans (hB1.mono hB.size)
  clear hB1
  obtain ⟨xa, xb, xc⟩ := (hh.get 1 _ _ rfl).three
  try dsimp only at xa xb xc
  have hrr := hh.get 0 _ _ rfl
  go_wp2_with (refine wpList_store_row rfl 23 _ _ rfl rb _ rfl rfl 23 _ hrr (by kernel_rfl) rfl (by first | (simp [Value.oneCell']; done) | (simp [Value.oneCell', uCells]; done)) ?_)
  (try simp only [Exit.inBlock, Exit.then]); refine bodyPost_ret (results_row2 rfl _ _ rb 23 _ _ rfl (setRow_heap _ _ _ _ _ _ hrr) Tryd.underlying23 rfl (by kernel_rfl)) rfl ?_
  exact ⟨rfl, below_setRow hB hrbB _⟩
set_option maxHeartbeats 2000000 in
set_option maxRecDepth 100000 in
theorem rpow_B_hi (y z n : Int) (w : World) (hv : vB (⟨0, y, z⟩ : U) = true) (hne : ¬ y = 0) (hn : 8 < n) : Calls Tryd.prog 12 #[uV (⟨0, y, z⟩ : U), .int .i64 n] w fun e w' => e = .returned (.tuple #[uV u0, .int .i64 9]) ∧ Below w.heap.size w w' := by
  have V1 := hid (fun w => rvalid_is hv w)
  clear hv
  have hn2 : ¬ n < -8 := by omega
  obtain ⟨a, ha⟩ : ∃ a, (⟨0, y, z⟩ : U) = a := ⟨_, rfl⟩
  clear ha a
  unfold uV at *
  try dsimp only [sclU, u0] at *
  go_enter Tryd.func12, Tryd.ntmps12
  go_wp2_with fail
  obtain ⟨w0, hw0, hh, hB⟩ := rpow_world (⟨0, y, z⟩ : U) w
  try dsimp only at hw0
  rw [hw0]
  clear hw0
  generalize hrb : w.heap.size + 1 = rb at *
  have hrbB : w.heap.size ≤ rb := by omega
  clear hrb
  refine (V1.out _).mono ?_
  rintro e w1 ⟨rfl, hB1⟩
  replace hh := hh.below hB1
  replace hB := hB.trans (hB1.mono hB.size)
  clear hB1
  obtain ⟨xa, xb, xc⟩ := (hh.get 1 _ _ rfl).three
  try dsimp only at xa xb xc
  have hrr := hh.get 0 _ _ rfl
  go_wp2_with (refine wpList_store_row rfl 23 _ _ rfl rb _ rfl rfl 23 _ hrr (by kernel_rfl) rfl (by first | (simp [Value.oneCell']; done) | (simp [Value.oneCell', uCells]; done)) ?_)
  (try simp only [Exit.inBlock, Exit.then]); refine bodyPost_ret (results_row2 rfl _ _ rb 23 _ _ rfl (setRow_heap _ _ _ _ _ _ hrr) Tryd.underlying23 rfl (by kernel_rfl)) rfl ?_
  exact ⟨rfl, below_setRow hB hrbB _⟩
set_option maxHeartbeats 2000000 in
set_option maxRecDepth 100000 in
theorem rpow_B_yes (y z n : Int) (w : World) (hv : vB (⟨0, y, z⟩ : U) = true) (hne : ¬ y = 0) (hn1 : -8 ≤ n) (hn2 : n ≤ 8) (hs : vB (⟨0, y * n, z * n⟩ : U) = true) : Calls Tryd.prog 12 #[uV (⟨0, y, z⟩ : U), .int .i64 n] w fun e w' => e = .returned (.tuple #[uV (⟨0, y * n, z * n⟩ : U), .int .i64 0]) ∧ Below w.heap.size w w' := by
  have V1 := hid (fun w => rvalid_is hv w)
  have V2 := hid (fun w => rvalid_is hs w)
  obtain ⟨b1, b2, b3⟩ := (vB_iff _).1 hv
  obtain ⟨m1, k1⟩ := mul_bd b1.1 b1.2 (show -9 ≤ n by omega) (show n ≤ 9 by omega)
  obtain ⟨m2, k2⟩ := mul_bd b2.1 b2.2 (show -9 ≤ n by omega) (show n ≤ 9 by omega)
  obtain ⟨m3, k3⟩ := mul_bd b3.1 b3.2 (show -9 ≤ n by omega) (show n ≤ 9 by omega)
  try dsimp only at m1 k1 m2 k2 m3 k3
  clear hv hs b1 b2 b3
  unfold uV at *
  try dsimp only [sclU, u0] at V2 ⊢
  go_enter Tryd.func12, Tryd.ntmps12
  go_wp2_with fail
  obtain ⟨w0, hw0, hh, hB⟩ := rpow_world (⟨0, y, z⟩ : U) w
  try dsimp only at hw0
  rw [hw0]
  clear hw0
  generalize hrb : w.heap.size + 1 = rb at *
  have hrbB : w.heap.size ≤ rb := by omega
  clear hrb
  refine (V1.out _).mono ?_
  rintro e w1 ⟨rfl, hB1⟩
  replace hh := hh.below hB1
  replace hB := hB.trans (hB1.mono hB.size)
  clear hB1
  obtain ⟨xa, xb, xc⟩ := (hh.get 1 _ _ rfl).three
  try dsimp only at xa xb xc
  go_wp2_with fail
  replace hh : Un (w1.alloc (.cells #[.int .i64 (0), .int .i64 (y * n), .int .i64 (z * n)] 23)) _ := hh.new ⟨0, y * n, z * n⟩
  replace hB := hB.alloc hB.size (.cells #[.int .i64 (0), .int .i64 (y * n), .int .i64 (z * n)] 23)
  refine (V2.out _).mono ?_
  rintro e w3 ⟨rfl, hB1⟩
  replace hh := hh.below hB1
  replace hB := hB.trans (hB1.mono hB.size)
  clear hB1 xa xb xc
  have hub := hh.get 0 _ _ rfl
  have hrr := hh.get 1 _ _ rfl
  generalize w1.heap.size = ub at *
  go_wp2_with (first | (refine wpList_load_row rfl 23 _ rfl ub rfl 23 _ (0, 0) _ hub Tryd.underlying23 rfl (by kernel_rfl) ?_) | (refine wpList_store_row rfl 23 _ _ rfl rb _ rfl rfl 23 _ hrr (by kernel_rfl) rfl (by first | (simp [Value.oneCell']; done) | (simp [Value.oneCell', uCells]; done)) ?_))
  (try simp only [Exit.inBlock, Exit.then]); refine bodyPost_ret (results_row2 rfl _ _ rb 23 _ _ rfl (setRow_heap _ _ _ _ _ _ hrr) Tryd.underlying23 rfl (by kernel_rfl)) rfl ?_
  exact ⟨rfl, below_setRow hB hrbB _⟩
set_option maxHeartbeats 2000000 in
set_option maxRecDepth 100000 in
theorem rpow_B_no (y z n : Int) (w : World) (hv : vB (⟨0, y, z⟩ : U) = true) (hne : ¬ y = 0) (hn1 : -8 ≤ n) (hn2 : n ≤ 8) (hs : vB (⟨0, y * n, z * n⟩ : U) = false) : Calls Tryd.prog 12 #[uV (⟨0, y, z⟩ : U), .int .i64 n] w fun e w' => e = .returned (.tuple #[uV u0, .int .i64 9]) ∧ Below w.heap.size w w' := by
  have V1 := hid (fun w => rvalid_is hv w)
  have V2 := hid (fun w => rvalid_is hs w)
  obtain ⟨b1, b2, b3⟩ := (vB_iff _).1 hv
  obtain ⟨m1, k1⟩ := mul_bd b1.1 b1.2 (show -9 ≤ n by omega) (show n ≤ 9 by omega)
  obtain ⟨m2, k2⟩ := mul_bd b2.1 b2.2 (show -9 ≤ n by omega) (show n ≤ 9 by omega)
  obtain ⟨m3, k3⟩ := mul_bd b3.1 b3.2 (show -9 ≤ n by omega) (show n ≤ 9 by omega)
  try dsimp only at m1 k1 m2 k2 m3 k3
  clear hv hs b1 b2 b3
  unfold uV at *
  try dsimp only [sclU, u0] at V2 ⊢
  go_enter Tryd.func12, Tryd.ntmps12
  go_wp2_with fail
  obtain ⟨w0, hw0, hh, hB⟩ := rpow_world (⟨0, y, z⟩ : U) w
  try dsimp only at hw0
  rw [hw0]
  clear hw0
  generalize hrb : w.heap.size + 1 = rb at *
  have hrbB : w.heap.size ≤ rb := by omega
  clear hrb
  refine (V1.out _).mono ?_
  rintro e w1 ⟨rfl, hB1⟩
  replace hh := hh.below hB1
  replace hB := hB.trans (hB1.mono hB.size)
  clear hB1
  obtain ⟨xa, xb, xc⟩ := (hh.get 1 _ _ rfl).three
  try dsimp only at xa xb xc
  go_wp2_with fail
  replace hh : Un (w1.alloc (.cells #[.int .i64 (0), .int .i64 (y * n), .int .i64 (z * n)] 23)) _ := hh.new ⟨0, y * n, z * n⟩
  replace hB := hB.alloc hB.size (.cells #[.int .i64 (0), .int .i64 (y * n), .int .i64 (z * n)] 23)
  refine (V2.out _).mono ?_
  rintro e w3 ⟨rfl, hB1⟩
  replace hh := hh.below hB1
  replace hB := hB.trans (hB1.mono hB.size)
  clear hB1 xa xb xc
  have hub := hh.get 0 _ _ rfl
  have hrr := hh.get 1 _ _ rfl
  generalize w1.heap.size = ub at *
  go_wp2_with (first | (refine wpList_load_row rfl 23 _ rfl ub rfl 23 _ (0, 0) _ hub Tryd.underlying23 rfl (by kernel_rfl) ?_) | (refine wpList_store_row rfl 23 _ _ rfl rb _ rfl rfl 23 _ hrr (by kernel_rfl) rfl (by first | (simp [Value.oneCell']; done) | (simp [Value.oneCell', uCells]; done)) ?_))
  (try simp only [Exit.inBlock, Exit.then]); refine bodyPost_ret (results_row2 rfl _ _ rb 23 _ _ rfl (setRow_heap _ _ _ _ _ _ hrr) Tryd.underlying23 rfl (by kernel_rfl)) rfl ?_
  exact ⟨rfl, below_setRow hB hrbB _⟩
set_option maxHeartbeats 2000000 in
set_option maxRecDepth 100000 in
theorem rpow_C_lo (z n : Int) (w : World) (hv : vB (⟨0, 0, z⟩ : U) = true) (hne : ¬ z = 0) (hn : n < -8) : Calls Tryd.prog 12 #[uV (⟨0, 0, z⟩ : U), .int .i64 n] w fun e w' => e = .returned (.tuple #[uV u0, .int .i64 9]) ∧ Below w.heap.size w w' := by
  have V1 := hid (fun w => rvalid_is hv w)
  clear hv
  obtain ⟨a, ha⟩ : ∃ a, (⟨0, 0, z⟩ : U) = a := ⟨_, rfl⟩
  clear ha a
  unfold uV at *
  try dsimp only [sclU, u0] at *
  go_enter Tryd.func12, Tryd.ntmps12
  go_wp2_with fail
  obtain ⟨w0, hw0, hh, hB⟩ := rpow_world (⟨0, 0, z⟩ : U) w
  try dsimp only at hw0
  rw [hw0]
  clear hw0
  generalize hrb : w.heap.size + 1 = rb at *
  have hrbB : w.heap.size ≤ rb := by omega
  clear hrb
  refine (V1.out _).mono ?_
  rintro e w1 ⟨rfl, hB1⟩
  replace hh := hh.below hB1
  replace hB := hB.trans (hB1.mono hB.size)
  clear hB1
  obtain ⟨xa, xb, xc⟩ := (hh.get 1 _ _ rfl).three
  try dsimp only at xa xb xc
  have hrr := hh.get 0 _ _ rfl
  go_wp2_with (refine wpList_store_row rfl 23 _ _ rfl rb _ rfl rfl 23 _ hrr (by kernel_rfl) rfl (by first | (simp [Value.oneCell']; done) | (simp [Value.oneCell', uCells]; done)) ?_)
  (try simp only [Exit.inBlock, Exit.then]); refine bodyPost_ret (results_row2 rfl _ _ rb 23 _ _ rfl (setRow_heap _ _ _ _ _ _ hrr) Tryd.underlying23 rfl (by kernel_rfl)) rfl ?_
  exact ⟨rfl, below_setRow hB hrbB _⟩
set_option maxHeartbeats 2000000 in
set_option maxRecDepth 100000 in
theorem rpow_C_hi (z n : Int) (w : World) (hv : vB (⟨0, 0, z⟩ : U) = true) (hne : ¬ z = 0) (hn : 8 < n) : Calls Tryd.prog 12 #[uV (⟨0, 0, z⟩ : U), .int .i64 n] w fun e w' => e = .returned (.tuple #[uV u0, .int .i64 9]) ∧ Below w.heap.size w w' := by
  have V1 := hid (fun w => rvalid_is hv w)
  clear hv
  have hn2 : ¬ n < -8 := by omega
  obtain ⟨a, ha⟩ : ∃ a, (⟨0, 0, z⟩ : U) = a := ⟨_, rfl⟩
  clear ha a
  unfold uV at *
  try dsimp only [sclU, u0] at *
  go_enter Tryd.func12, Tryd.ntmps12
  go_wp2_with fail
  obtain ⟨w0, hw0, hh, hB⟩ := rpow_world (⟨0, 0, z⟩ : U) w
  try dsimp only at hw0
  rw [hw0]
  clear hw0
  generalize hrb : w.heap.size + 1 = rb at *
  have hrbB : w.heap.size ≤ rb := by omega
  clear hrb
  refine (V1.out _).mono ?_
  rintro e w1 ⟨rfl, hB1⟩
  replace hh := hh.below hB1
  replace hB := hB.trans (hB1.mono hB.size)
  clear hB1
  obtain ⟨xa, xb, xc⟩ := (hh.get 1 _ _ rfl).three
  try dsimp only at xa xb xc
  have hrr := hh.get 0 _ _ rfl
  go_wp2_with (refine wpList_store_row rfl 23 _ _ rfl rb _ rfl rfl 23 _ hrr (by kernel_rfl) rfl (by first | (simp [Value.oneCell']; done) | (simp [Value.oneCell', uCells]; done)) ?_)
  (try simp only [Exit.inBlock, Exit.then]); refine bodyPost_ret (results_row2 rfl _ _ rb 23 _ _ rfl (setRow_heap _ _ _ _ _ _ hrr) Tryd.underlying23 rfl (by kernel_rfl)) rfl ?_
  exact ⟨rfl, below_setRow hB hrbB _⟩
set_option maxHeartbeats 2000000 in
set_option maxRecDepth 100000 in
theorem rpow_C_yes (z n : Int) (w : World) (hv : vB (⟨0, 0, z⟩ : U) = true) (hne : ¬ z = 0) (hn1 : -8 ≤ n) (hn2 : n ≤ 8) (hs : vB (⟨0, 0, z * n⟩ : U) = true) : Calls Tryd.prog 12 #[uV (⟨0, 0, z⟩ : U), .int .i64 n] w fun e w' => e = .returned (.tuple #[uV (⟨0, 0, z * n⟩ : U), .int .i64 0]) ∧ Below w.heap.size w w' := by
  have V1 := hid (fun w => rvalid_is hv w)
  have V2 := hid (fun w => rvalid_is hs w)
  obtain ⟨b1, b2, b3⟩ := (vB_iff _).1 hv
  obtain ⟨m1, k1⟩ := mul_bd b1.1 b1.2 (show -9 ≤ n by omega) (show n ≤ 9 by omega)
  obtain ⟨m2, k2⟩ := mul_bd b2.1 b2.2 (show -9 ≤ n by omega) (show n ≤ 9 by omega)
  obtain ⟨m3, k3⟩ := mul_bd b3.1 b3.2 (show -9 ≤ n by omega) (show n ≤ 9 by omega)
  try dsimp only at m1 k1 m2 k2 m3 k3
  clear hv hs b1 b2 b3
  unfold uV at *
  try dsimp only [sclU, u0] at V2 ⊢
  go_enter Tryd.func12, Tryd.ntmps12
  go_wp2_with fail
  obtain ⟨w0, hw0, hh, hB⟩ := rpow_world (⟨0, 0, z⟩ : U) w
  try dsimp only at hw0
  rw [hw0]
  clear hw0
  generalize hrb : w.heap.size + 1 = rb at *
  have hrbB : w.heap.size ≤ rb := by omega
  clear hrb
  refine (V1.out _).mono ?_
  rintro e w1 ⟨rfl, hB1⟩
  replace hh := hh.below hB1
  replace hB := hB.trans (hB1.mono hB.size)
  clear hB1
  obtain ⟨xa, xb, xc⟩ := (hh.get 1 _ _ rfl).three
  try dsimp only at xa xb xc
  go_wp2_with fail
  replace hh : Un (w1.alloc (.cells #[.int .i64 (0), .int .i64 (0), .int .i64 (z * n)] 23)) _ := hh.new ⟨0, 0, z * n⟩
  replace hB := hB.alloc hB.size (.cells #[.int .i64 (0), .int .i64 (0), .int .i64 (z * n)] 23)
  refine (V2.out _).mono ?_
  rintro e w3 ⟨rfl, hB1⟩
  replace hh := hh.below hB1
  replace hB := hB.trans (hB1.mono hB.size)
  clear hB1 xa xb xc
  have hub := hh.get 0 _ _ rfl
  have hrr := hh.get 1 _ _ rfl
  generalize w1.heap.size = ub at *
  go_wp2_with (first | (refine wpList_load_row rfl 23 _ rfl ub rfl 23 _ (0, 0) _ hub Tryd.underlying23 rfl (by kernel_rfl) ?_) | (refine wpList_store_row rfl 23 _ _ rfl rb _ rfl rfl 23 _ hrr (by kernel_rfl) rfl (by first | (simp [Value.oneCell']; done) | (simp [Value.oneCell', uCells]; done)) ?_))
  (try simp only [Exit.inBlock, Exit.then]); refine bodyPost_ret (results_row2 rfl _ _ rb 23 _ _ rfl (setRow_heap _ _ _ _ _ _ hrr) Tryd.underlying23 rfl (by kernel_rfl)) rfl ?_
  exact ⟨rfl, below_setRow hB hrbB _⟩
set_option maxHeartbeats 2000000 in
set_option maxRecDepth 100000 in
theorem rpow_C_no (z n : Int) (w : World) (hv : vB (⟨0, 0, z⟩ : U) = true) (hne : ¬ z = 0) (hn1 : -8 ≤ n) (hn2 : n ≤ 8) (hs : vB (⟨0, 0, z * n⟩ : U) = false) : Calls Tryd.prog 12 #[uV (⟨0, 0, z⟩ : U), .int .i64 n] w fun e w' => e = .returned (.tuple #[uV u0, .int .i64 9]) ∧ Below w.heap.size w w' := by
  have V1 := hid (fun w => rvalid_is hv w)
  have V2 := hid (fun w => rvalid_is hs w)
  obtain ⟨b1, b2, b3⟩ := (vB_iff _).1 hv
  obtain ⟨m1, k1⟩ := mul_bd b1.1 b1.2 (show -9 ≤ n by omega) (show n ≤ 9 by omega)
  obtain ⟨m2, k2⟩ := mul_bd b2.1 b2.2 (show -9 ≤ n by omega) (show n ≤ 9 by omega)
  obtain ⟨m3, k3⟩ := mul_bd b3.1 b3.2 (show -9 ≤ n by omega) (show n ≤ 9 by omega)
  try dsimp only at m1 k1 m2 k2 m3 k3
  clear hv hs b1 b2 b3
  unfold uV at *
  try dsimp only [sclU, u0] at V2 ⊢
  go_enter Tryd.func12, Tryd.ntmps12
  go_wp2_with fail
  obtain ⟨w0, hw0, hh, hB⟩ := rpow_world (⟨0, 0, z⟩ : U) w
  try dsimp only at hw0
  rw [hw0]
  clear hw0
  generalize hrb : w.heap.size + 1 = rb at *
  have hrbB : w.heap.size ≤ rb := by omega
  clear hrb
  refine (V1.out _).mono ?_
  rintro e w1 ⟨rfl, hB1⟩
  replace hh := hh.below hB1
  replace hB := hB.trans (hB1.mono hB.size)
  clear hB1
  obtain ⟨xa, xb, xc⟩ := (hh.get 1 _ _ rfl).three
  try dsimp only at xa xb xc
  go_wp2_with fail
  replace hh : Un (w1.alloc (.cells #[.int .i64 (0), .int .i64 (0), .int .i64 (z * n)] 23)) _ := hh.new ⟨0, 0, z * n⟩
  replace hB := hB.alloc hB.size (.cells #[.int .i64 (0), .int .i64 (0), .int .i64 (z * n)] 23)
  refine (V2.out _).mono ?_
  rintro e w3 ⟨rfl, hB1⟩
  replace hh := hh.below hB1
  replace hB := hB.trans (hB1.mono hB.size)
  clear hB1 xa xb xc
  have hub := hh.get 0 _ _ rfl
  have hrr := hh.get 1 _ _ rfl
  generalize w1.heap.size = ub at *
  go_wp2_with (first | (refine wpList_load_row rfl 23 _ rfl ub rfl 23 _ (0, 0) _ hub Tryd.underlying23 rfl (by kernel_rfl) ?_) | (refine wpList_store_row rfl 23 _ _ rfl rb _ rfl rfl 23 _ hrr (by kernel_rfl) rfl (by first | (simp [Value.oneCell']; done) | (simp [Value.oneCell', uCells]; done)) ?_))
  (try simp only [Exit.inBlock, Exit.then]); refine bodyPost_ret (results_row2 rfl _ _ rb 23 _ _ rfl (setRow_heap _ _ _ _ _ _ hrr) Tryd.underlying23 rfl (by kernel_rfl)) rfl ?_
  exact ⟨rfl, below_setRow hB hrbB _⟩
theorem rpow_any (u : U) (n : Int) (w : World) : Calls Tryd.prog 12 #[uV u, .int .i64 n] w fun e w' => e = .returned (.tuple #[uV (powR u n).1, .int .i64 (powR u n).2]) ∧ Below w.heap.size w w' := by
  cases hv : vB u with
  | false => rw [pow_arg hv]; exact rpow_bad u n w hv
  | true =>
    by_cases h0 : u = u0
    · subst h0
      have : powR u0 n = (u0, 0) := by
        have := pow_ok (n := n) vB_u0 (by rw [scl_u0]; exact vB_u0)
        rwa [scl_u0] at this
      rw [this]; exact rpow_zero n w
    · have hne := ne_u0 h0
      by_cases hr : -8 ≤ n ∧ n ≤ 8
      · cases hs : vB (sclU u n) with
        | true =>
          rw [pow_ok hv hs]
          obtain ⟨x, y, z⟩ := u
          by_cases hx : x = 0
          · subst hx
            by_cases hy : y = 0
            · subst hy
              have hz : ¬ z = 0 := by dsimp only at hne; omega
              have e : sclU (⟨0, 0, z⟩ : U) n = ⟨0, 0, z * n⟩ := by simp [sclU]
              rw [e] at hs ⊢
              exact rpow_C_yes z n w hv hz hr.1 hr.2 hs
            · have e : sclU (⟨0, y, z⟩ : U) n = ⟨0, y * n, z * n⟩ := by simp [sclU]
              rw [e] at hs ⊢
              exact rpow_B_yes y z n w hv hy hr.1 hr.2 hs
          · exact rpow_A_yes x y z n w hv hx hr.1 hr.2 hs
        | false =>
          rw [pow_out hv hs]
          obtain ⟨x, y, z⟩ := u
          by_cases hx : x = 0
          · subst hx
            by_cases hy : y = 0
            · subst hy
              have hz : ¬ z = 0 := by dsimp only at hne; omega
              have e : sclU (⟨0, 0, z⟩ : U) n = ⟨0, 0, z * n⟩ := by simp [sclU]
              rw [e] at hs
              exact rpow_C_no z n w hv hz hr.1 hr.2 hs
            · have e : sclU (⟨0, y, z⟩ : U) n = ⟨0, y * n, z * n⟩ := by simp [sclU]
              rw [e] at hs
              exact rpow_B_no y z n w hv hy hr.1 hr.2 hs
          · exact rpow_A_no x y z n w hv hx hr.1 hr.2 hs
      · have hp : powR u n = (u0, 9) := by
          unfold powR
          rw [if_pos hv, if_neg h0, if_neg]
          intro hc
          exact hr (scl_clamp h0 hc)
        rw [hp]
        obtain ⟨x, y, z⟩ := u
        by_cases hlo : n < -8
        · by_cases hx : x = 0
          · subst hx
            by_cases hy : y = 0
            · subst hy
              have hz : ¬ z = 0 := by dsimp only at hne; omega
              exact rpow_C_lo z n w hv hz hlo
            · exact rpow_B_lo y z n w hv hy hlo
          · exact rpow_A_lo x y z n w hv hx hlo
        · have hhi : 8 < n := by omega
          by_cases hx : x = 0
          · subst hx
            by_cases hy : y = 0
            · subst hy
              have hz : ¬ z = 0 := by dsimp only at hne; omega
              exact rpow_C_hi z n w hv hz hhi
            · exact rpow_B_hi y z n w hv hy hhi
          · exact rpow_A_hi x y z n w hv hx hhi
end Go.Proofs.YtmfoincmjpogmaaDoor
