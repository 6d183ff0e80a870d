/- unit: the statement UnitTexts -/
import Derived.Test.YtmfoincmjpogmaaDoorUnitOpen
namespace Go.Proofs.YtmfoincmjpogmaaDoor
open Go.RowKit

theorem two_unitsT (a b : U) (w : World) : ∃ w0 : World, ((w.alloc (.cells #[.int .i64 a.a, .int .i64 a.b, .int .i64 a.c] 23)).alloc (.cells #[.int .i64 b.a, .int .i64 b.b, .int .i64 b.c] 23)) = w0 ∧ Un w0 [(w.heap.size + 1, b), (w.heap.size, a)] ∧ Below w.heap.size w w0 := by
  refine ⟨_, rfl, ?_, (below_alloc w _).alloc (by simp) _⟩
  have := ((Un.nil w).new a).new b
  rw [World.size_alloc] at this
  exact this
theorem text_okT {u : U} {s : ByteArray} (h : vB u = true) (hs : textB u = s) (w : World) (hL : LayU w) : Calls Tryd.prog 13 #[uV u] w fun e w' => e = .returned (.tuple #[.string s, .int .i64 0]) ∧ Below w.heap.size w w' := by
  subst hs; exact text_good u w h hL.lay hL.names
theorem textB_size {u : U} (h : vB u = true) : (textB u).size ≤ 1000 := by
  obtain ⟨h1, h2, h3⟩ := (vB_iff u).1 h
  unfold textB
  by_cases he : facs u 3 = []
  · rw [if_pos he]; decide
  · rw [if_neg he]
    show (Lib.join ((facs u 3).map (·.data.toList)) [32]).toArray.size ≤ _
    rw [List.size_toArray]
    have hall : ∀ s ∈ (facs u 3).map (·.data.toList), s.length ≤ 100 := by
      intro s hs
      rw [List.mem_map] at hs
      obtain ⟨b, hb, rfl⟩ := hs
      simp only [facs, List.mem_append] at hb
      rcases hb with (hb | hb) | hb
      · exact facS_size (by decide) (by omega) (by omega) b hb
      · exact facS_size (by decide) (by omega) (by omega) b hb
      · exact facS_size (by decide) (by omega) (by omega) b hb
    have hl := lens_le _ hall
    have h3 := facs_len u 3
    rw [strs_len] at h3
    have hm : ((facs u 3).map (·.data.toList)).length ≤ 3 := by rw [List.length_map]; exact h3
    generalize (facs u 3).map (·.data.toList) = L at *
    cases L with
    | nil => simp [Lib.join_nil]
    | cons x r =>
      rw [Lib.join_length]
      simp only [List.length_cons, List.length_nil] at *
      omega
set_option maxHeartbeats 4000000 in
set_option maxRecDepth 100000 in
theorem texts_long (a b : U) (s : ByteArray) (w : World) (hL : LayU w) (hs : 200 < s.size) : Calls Tryd.prog 6 #[uV a, uV b, .string s] w fun e w' => e = .returned (.bool true) ∧ Below w.heap.size w w' := by
  have HL := hid hL
  clear hL
  have HH := hid (fun w (hL : LayU w) => head_any w hL)
  unfold uV at *
  try dsimp only [addU, sclU, u0] at *
  go_enter Tryd.func6, Tryd.ntmps6
  go_wp2_with fail
  obtain ⟨w0, hw0, hh, hB⟩ := two_unitsT a b w
  rw [hw0]
  clear hw0
  refine (HH.out _ (HL.out.below hB)).mono ?_
  rintro e w1 ⟨rfl, hB1⟩
  replace hh := hh.below hB1
  replace hB := hB.trans (hB1.mono hB.size)
  clear hB1
  obtain ⟨x0a, x0b, x0c⟩ := (hh.get 0 _ _ rfl).three
  obtain ⟨x1a, x1b, x1c⟩ := (hh.get 1 _ _ rfl).three
  try dsimp only [u0, addU, sclU] at x0a x0b x0c x1a x1b x1c
  go_wp2_with fail
  clear x0a x0b x0c x1a x1b x1c
  go_ret
  exact ⟨ret_bool (by first | rfl | simp | (simp [*])), hB⟩
set_option maxHeartbeats 4000000 in
set_option maxRecDepth 100000 in
theorem texts_bad_bad (a b : U) (s : ByteArray) (w : World) (hL : LayU w) (hs : s.size ≤ 200) (ha : vB a = false) (hb : vB b = false) : Calls Tryd.prog 6 #[uV a, uV b, .string s] w fun e w' => e = .returned (.bool true) ∧ Below w.heap.size w w' := by
  obtain ⟨x, hx⟩ : ∃ x, parseU s.data.toList = x := ⟨_, rfl⟩
  obtain ⟨g, hg⟩ : ∃ x, parseE s.data.toList = x := ⟨_, rfl⟩
  have HP := hid (fun w hL => parse_eq (s := s) (by omega) ⟨hx, hg⟩ w hL)
  have HX := hid (show g = 0 → vB x = true ∧ textB x = s by
    intro h0; subst hx hg; have := parse_ok h0; exact ⟨this.1, str_ext this.2⟩)
  have HY := hid (show ¬ g = 0 → g = 5 ∧ x = u0 by
    intro h0; subst hx hg; exact parse_not h0)
  clear hx hg
  have HTA := hid (fun w => text_bad a w ha)
  have HTB := hid (fun w => text_bad b w hb)
  clear ha hb
  have HL := hid hL
  clear hL
  have HH := hid (fun w (hL : LayU w) => head_any w hL)
  unfold uV at *
  try dsimp only [addU, sclU, u0] at *
  go_enter Tryd.func6, Tryd.ntmps6
  go_wp2_with fail
  obtain ⟨w0, hw0, hh, hB⟩ := two_unitsT a b w
  rw [hw0]
  clear hw0
  refine (HH.out _ (HL.out.below hB)).mono ?_
  rintro e w1 ⟨rfl, hB1⟩
  replace hh := hh.below hB1
  replace hB := hB.trans (hB1.mono hB.size)
  clear hB1
  obtain ⟨x0a, x0b, x0c⟩ := (hh.get 0 _ _ rfl).three
  obtain ⟨x1a, x1b, x1c⟩ := (hh.get 1 _ _ rfl).three
  try dsimp only [u0, addU, sclU] at x0a x0b x0c x1a x1b x1c
  go_wp2_with fail
  clear x0a x0b x0c x1a x1b x1c
  refine (HTA.out _).mono ?_
  rintro e w2 ⟨rfl, hB1⟩
  replace hh := hh.below hB1
  replace hB := hB.trans (hB1.mono hB.size)
  clear hB1
  obtain ⟨x0a, x0b, x0c⟩ := (hh.get 0 _ _ rfl).three
  obtain ⟨x1a, x1b, x1c⟩ := (hh.get 1 _ _ rfl).three
  try dsimp only [u0, addU, sclU] at x0a x0b x0c x1a x1b x1c
  go_wp2_with fail
  clear x0a x0b x0c x1a x1b x1c
  refine (HTB.out _).mono ?_
  rintro e w3 ⟨rfl, hB1⟩
  replace hh := hh.below hB1
  replace hB := hB.trans (hB1.mono hB.size)
  clear hB1
  obtain ⟨x0a, x0b, x0c⟩ := (hh.get 0 _ _ rfl).three
  obtain ⟨x1a, x1b, x1c⟩ := (hh.get 1 _ _ rfl).three
  try dsimp only [u0, addU, sclU] at x0a x0b x0c x1a x1b x1c
  go_wp2_with fail
  clear x0a x0b x0c x1a x1b x1c
  refine (HP.out _ (HL.out.below hB)).mono ?_
  rintro e w4 ⟨rfl, hB1⟩
  replace hh : Un (w4.alloc (Obj.cells #[Value.int .i64 x.a, Value.int .i64 x.b, Value.int .i64 x.c] 23)) [(w4.heap.size, x), (w.heap.size + 1, b), (w.heap.size, a)] := (hh.below hB1).new x
  replace hB := (hB.trans (hB1.mono hB.size)).alloc (by have := hB.size; have := hB1.size; omega) (Obj.cells #[Value.int .i64 x.a, Value.int .i64 x.b, Value.int .i64 x.c] 23)
  clear hB1
  obtain ⟨x0a, x0b, x0c⟩ := (hh.get 0 _ _ rfl).three
  obtain ⟨x1a, x1b, x1c⟩ := (hh.get 1 _ _ rfl).three
  obtain ⟨x2a, x2b, x2c⟩ := (hh.get 2 _ _ rfl).three
  try dsimp only [u0, addU, sclU] at x0a x0b x0c x1a x1b x1c x2a x2b x2c
  by_cases hg : g = 0
  · obtain ⟨hx1, hx2⟩ := HX.out hg
    subst hg
    have HQ := hid (fun w hL => text_okT hx1 hx2 w hL)
    unfold uV at HQ
    clear hx1 hx2
    go_wp2_with fail
    refine (HQ.out _ (HL.out.below hB)).mono ?_
    rintro e w5 ⟨rfl, hB1⟩
    replace hh := hh.below hB1
    replace hB := hB.trans (hB1.mono hB.size)
    clear hB1
    obtain ⟨x0a, x0b, x0c⟩ := (hh.get 0 _ _ rfl).three
    obtain ⟨x1a, x1b, x1c⟩ := (hh.get 1 _ _ rfl).three
    obtain ⟨x2a, x2b, x2c⟩ := (hh.get 2 _ _ rfl).three
    try dsimp only [u0, addU, sclU] at x0a x0b x0c x1a x1b x1c x2a x2b x2c
    go_wp2_with fail
    clear x0a x0b x0c x1a x1b x1c x2a x2b x2c
    go_ret
    exact ⟨ret_bool (by first | rfl | simp), hB⟩
  · obtain ⟨rfl, rfl⟩ := HY.out hg
    go_wp2_with fail
    go_ret
    exact ⟨ret_bool (by first | rfl | simp), hB⟩
set_option maxHeartbeats 4000000 in
set_option maxRecDepth 100000 in
theorem texts_bad_good (a b : U) (s : ByteArray) (w : World) (hL : LayU w) (hs : s.size ≤ 200) (ha : vB a = false) (hb : vB b = true) : Calls Tryd.prog 6 #[uV a, uV b, .string s] w fun e w' => e = .returned (.bool true) ∧ Below w.heap.size w w' := by
  obtain ⟨x, hx⟩ : ∃ x, parseU s.data.toList = x := ⟨_, rfl⟩
  obtain ⟨g, hg⟩ : ∃ x, parseE s.data.toList = x := ⟨_, rfl⟩
  have HP := hid (fun w hL => parse_eq (s := s) (by omega) ⟨hx, hg⟩ w hL)
  have HX := hid (show g = 0 → vB x = true ∧ textB x = s by
    intro h0; subst hx hg; have := parse_ok h0; exact ⟨this.1, str_ext this.2⟩)
  have HY := hid (show ¬ g = 0 → g = 5 ∧ x = u0 by
    intro h0; subst hx hg; exact parse_not h0)
  clear hx hg
  have HTA := hid (fun w => text_bad a w ha)
  obtain ⟨u, hu⟩ : ∃ t, textB b = t := ⟨_, rfl⟩
  have HTB := hid (fun w hL => text_okT hb hu w hL)
  clear hu
  clear ha hb
  have HL := hid hL
  clear hL
  have HH := hid (fun w (hL : LayU w) => head_any w hL)
  unfold uV at *
  try dsimp only [addU, sclU, u0] at *
  go_enter Tryd.func6, Tryd.ntmps6
  go_wp2_with fail
  obtain ⟨w0, hw0, hh, hB⟩ := two_unitsT a b w
  rw [hw0]
  clear hw0
  refine (HH.out _ (HL.out.below hB)).mono ?_
  rintro e w1 ⟨rfl, hB1⟩
  replace hh := hh.below hB1
  replace hB := hB.trans (hB1.mono hB.size)
  clear hB1
  obtain ⟨x0a, x0b, x0c⟩ := (hh.get 0 _ _ rfl).three
  obtain ⟨x1a, x1b, x1c⟩ := (hh.get 1 _ _ rfl).three
  try dsimp only [u0, addU, sclU] at x0a x0b x0c x1a x1b x1c
  go_wp2_with fail
  clear x0a x0b x0c x1a x1b x1c
  refine (HTA.out _).mono ?_
  rintro e w2 ⟨rfl, hB1⟩
  replace hh := hh.below hB1
  replace hB := hB.trans (hB1.mono hB.size)
  clear hB1
  obtain ⟨x0a, x0b, x0c⟩ := (hh.get 0 _ _ rfl).three
  obtain ⟨x1a, x1b, x1c⟩ := (hh.get 1 _ _ rfl).three
  try dsimp only [u0, addU, sclU] at x0a x0b x0c x1a x1b x1c
  go_wp2_with fail
  clear x0a x0b x0c x1a x1b x1c
  refine (HTB.out _ (HL.out.below hB)).mono ?_
  rintro e w3 ⟨rfl, hB1⟩
  replace hh := hh.below hB1
  replace hB := hB.trans (hB1.mono hB.size)
  clear hB1
  obtain ⟨x0a, x0b, x0c⟩ := (hh.get 0 _ _ rfl).three
  obtain ⟨x1a, x1b, x1c⟩ := (hh.get 1 _ _ rfl).three
  try dsimp only [u0, addU, sclU] at x0a x0b x0c x1a x1b x1c
  go_wp2_with fail
  clear x0a x0b x0c x1a x1b x1c
  refine (HP.out _ (HL.out.below hB)).mono ?_
  rintro e w4 ⟨rfl, hB1⟩
  replace hh : Un (w4.alloc (Obj.cells #[Value.int .i64 x.a, Value.int .i64 x.b, Value.int .i64 x.c] 23)) [(w4.heap.size, x), (w.heap.size + 1, b), (w.heap.size, a)] := (hh.below hB1).new x
  replace hB := (hB.trans (hB1.mono hB.size)).alloc (by have := hB.size; have := hB1.size; omega) (Obj.cells #[Value.int .i64 x.a, Value.int .i64 x.b, Value.int .i64 x.c] 23)
  clear hB1
  obtain ⟨x0a, x0b, x0c⟩ := (hh.get 0 _ _ rfl).three
  obtain ⟨x1a, x1b, x1c⟩ := (hh.get 1 _ _ rfl).three
  obtain ⟨x2a, x2b, x2c⟩ := (hh.get 2 _ _ rfl).three
  try dsimp only [u0, addU, sclU] at x0a x0b x0c x1a x1b x1c x2a x2b x2c
  by_cases hg : g = 0
  · obtain ⟨hx1, hx2⟩ := HX.out hg
    subst hg
    have HQ := hid (fun w hL => text_okT hx1 hx2 w hL)
    unfold uV at HQ
    clear hx1 hx2
    go_wp2_with fail
    refine (HQ.out _ (HL.out.below hB)).mono ?_
    rintro e w5 ⟨rfl, hB1⟩
    replace hh := hh.below hB1
    replace hB := hB.trans (hB1.mono hB.size)
    clear hB1
    obtain ⟨x0a, x0b, x0c⟩ := (hh.get 0 _ _ rfl).three
    obtain ⟨x1a, x1b, x1c⟩ := (hh.get 1 _ _ rfl).three
    obtain ⟨x2a, x2b, x2c⟩ := (hh.get 2 _ _ rfl).three
    try dsimp only [u0, addU, sclU] at x0a x0b x0c x1a x1b x1c x2a x2b x2c
    go_wp2_with fail
    clear x0a x0b x0c x1a x1b x1c x2a x2b x2c
    go_ret
    exact ⟨ret_bool (by first | rfl | simp), hB⟩
  · obtain ⟨rfl, rfl⟩ := HY.out hg
    go_wp2_with fail
    go_ret
    exact ⟨ret_bool (by first | rfl | simp), hB⟩
set_option maxHeartbeats 4000000 in
set_option maxRecDepth 100000 in
theorem texts_good_bad (a b : U) (s : ByteArray) (w : World) (hL : LayU w) (hs : s.size ≤ 200) (ha : vB a = true) (hb : vB b = false) : Calls Tryd.prog 6 #[uV a, uV b, .string s] w fun e w' => e = .returned (.bool true) ∧ Below w.heap.size w w' := by
  obtain ⟨x, hx⟩ : ∃ x, parseU s.data.toList = x := ⟨_, rfl⟩
  obtain ⟨g, hg⟩ : ∃ x, parseE s.data.toList = x := ⟨_, rfl⟩
  have HP := hid (fun w hL => parse_eq (s := s) (by omega) ⟨hx, hg⟩ w hL)
  have HX := hid (show g = 0 → vB x = true ∧ textB x = s by
    intro h0; subst hx hg; have := parse_ok h0; exact ⟨this.1, str_ext this.2⟩)
  have HY := hid (show ¬ g = 0 → g = 5 ∧ x = u0 by
    intro h0; subst hx hg; exact parse_not h0)
  clear hx hg
  obtain ⟨t, ht⟩ : ∃ t, textB a = t := ⟨_, rfl⟩
  have HTA := hid (fun w hL => text_okT ha ht w hL)
  have HPA := hid (fun w hL => parse_eq (s := t) (x := a) (e := 0) (by rw [← ht]; have := textB_size ha; omega) (by rw [← ht]; exact parse_text _ ha) w hL)
  have HTB := hid (fun w => text_bad b w hb)
  clear ht
  clear ha hb
  have HL := hid hL
  clear hL
  have HH := hid (fun w (hL : LayU w) => head_any w hL)
  unfold uV at *
  try dsimp only [addU, sclU, u0] at *
  go_enter Tryd.func6, Tryd.ntmps6
  go_wp2_with fail
  obtain ⟨w0, hw0, hh, hB⟩ := two_unitsT a b w
  rw [hw0]
  clear hw0
  refine (HH.out _ (HL.out.below hB)).mono ?_
  rintro e w1 ⟨rfl, hB1⟩
  replace hh := hh.below hB1
  replace hB := hB.trans (hB1.mono hB.size)
  clear hB1
  obtain ⟨x0a, x0b, x0c⟩ := (hh.get 0 _ _ rfl).three
  obtain ⟨x1a, x1b, x1c⟩ := (hh.get 1 _ _ rfl).three
  try dsimp only [u0, addU, sclU] at x0a x0b x0c x1a x1b x1c
  go_wp2_with fail
  clear x0a x0b x0c x1a x1b x1c
  refine (HTA.out _ (HL.out.below hB)).mono ?_
  rintro e w2 ⟨rfl, hB1⟩
  replace hh := hh.below hB1
  replace hB := hB.trans (hB1.mono hB.size)
  clear hB1
  obtain ⟨x0a, x0b, x0c⟩ := (hh.get 0 _ _ rfl).three
  obtain ⟨x1a, x1b, x1c⟩ := (hh.get 1 _ _ rfl).three
  try dsimp only [u0, addU, sclU] at x0a x0b x0c x1a x1b x1c
  go_wp2_with fail
  clear x0a x0b x0c x1a x1b x1c
  refine (HTB.out _).mono ?_
  rintro e w3 ⟨rfl, hB1⟩
  replace hh := hh.below hB1
  replace hB := hB.trans (hB1.mono hB.size)
  clear hB1
  obtain ⟨x0a, x0b, x0c⟩ := (hh.get 0 _ _ rfl).three
  obtain ⟨x1a, x1b, x1c⟩ := (hh.get 1 _ _ rfl).three
  try dsimp only [u0, addU, sclU] at x0a x0b x0c x1a x1b x1c
  go_wp2_with fail
  clear x0a x0b x0c x1a x1b x1c
  refine (HPA.out _ (HL.out.below hB)).mono ?_
  rintro e w4 ⟨rfl, hB1⟩
  replace hh : Un (w4.alloc (Obj.cells #[Value.int .i64 a.a, Value.int .i64 a.b, Value.int .i64 a.c] 23)) [(w4.heap.size, a), (w.heap.size + 1, b), (w.heap.size, a)] := (hh.below hB1).new a
  replace hB := (hB.trans (hB1.mono hB.size)).alloc (by have := hB.size; have := hB1.size; omega) (Obj.cells #[Value.int .i64 a.a, Value.int .i64 a.b, Value.int .i64 a.c] 23)
  clear hB1
  obtain ⟨x0a, x0b, x0c⟩ := (hh.get 0 _ _ rfl).three
  obtain ⟨x1a, x1b, x1c⟩ := (hh.get 1 _ _ rfl).three
  obtain ⟨x2a, x2b, x2c⟩ := (hh.get 2 _ _ rfl).three
  try dsimp only [u0, addU, sclU] at x0a x0b x0c x1a x1b x1c x2a x2b x2c
  go_wp2_with fail
  clear x0a x0b x0c x1a x1b x1c x2a x2b x2c
  refine (HP.out _ (HL.out.below hB)).mono ?_
  rintro e w5 ⟨rfl, hB1⟩
  replace hh : Un (w5.alloc (Obj.cells #[Value.int .i64 x.a, Value.int .i64 x.b, Value.int .i64 x.c] 23)) [(w5.heap.size, x), (w4.heap.size, a), (w.heap.size + 1, b), (w.heap.size, a)] := (hh.below hB1).new x
  replace hB := (hB.trans (hB1.mono hB.size)).alloc (by have := hB.size; have := hB1.size; omega) (Obj.cells #[Value.int .i64 x.a, Value.int .i64 x.b, Value.int .i64 x.c] 23)
  clear hB1
  obtain ⟨x0a, x0b, x0c⟩ := (hh.get 0 _ _ rfl).three
  obtain ⟨x1a, x1b, x1c⟩ := (hh.get 1 _ _ rfl).three
  obtain ⟨x2a, x2b, x2c⟩ := (hh.get 2 _ _ rfl).three
  obtain ⟨x3a, x3b, x3c⟩ := (hh.get 3 _ _ rfl).three
  try dsimp only [u0, addU, sclU] at x0a x0b x0c x1a x1b x1c x2a x2b x2c x3a x3b x3c
  by_cases hg : g = 0
  · obtain ⟨hx1, hx2⟩ := HX.out hg
    subst hg
    have HQ := hid (fun w hL => text_okT hx1 hx2 w hL)
    unfold uV at HQ
    clear hx1 hx2
    go_wp2_with fail
    refine (HQ.out _ (HL.out.below hB)).mono ?_
    rintro e w6 ⟨rfl, hB1⟩
    replace hh := hh.below hB1
    replace hB := hB.trans (hB1.mono hB.size)
    clear hB1
    obtain ⟨x0a, x0b, x0c⟩ := (hh.get 0 _ _ rfl).three
    obtain ⟨x1a, x1b, x1c⟩ := (hh.get 1 _ _ rfl).three
    obtain ⟨x2a, x2b, x2c⟩ := (hh.get 2 _ _ rfl).three
    obtain ⟨x3a, x3b, x3c⟩ := (hh.get 3 _ _ rfl).three
    try dsimp only [u0, addU, sclU] at x0a x0b x0c x1a x1b x1c x2a x2b x2c x3a x3b x3c
    go_wp2_with fail
    clear x0a x0b x0c x1a x1b x1c x2a x2b x2c x3a x3b x3c
    go_ret
    exact ⟨ret_bool (by first | rfl | simp), hB⟩
  · obtain ⟨rfl, rfl⟩ := HY.out hg
    go_wp2_with fail
    go_ret
    exact ⟨ret_bool (by first | rfl | simp), hB⟩
set_option maxHeartbeats 4000000 in
set_option maxRecDepth 100000 in
theorem texts_good_ne1 (a1 a2 a3 b1 b2 b3 : Int) (s : ByteArray) (w : World) (hL : LayU w) (hs : s.size ≤ 200) (ha : vB (⟨a1, a2, a3⟩ : U) = true) (hb : vB (⟨b1, b2, b3⟩ : U) = true) (hne : ¬ a1 = b1) : Calls Tryd.prog 6 #[uV (⟨a1, a2, a3⟩ : U), uV (⟨b1, b2, b3⟩ : U), .string s] w fun e w' => e = .returned (.bool true) ∧ Below w.heap.size w w' := by
  obtain ⟨x, hx⟩ : ∃ x, parseU s.data.toList = x := ⟨_, rfl⟩
  obtain ⟨g, hg⟩ : ∃ x, parseE s.data.toList = x := ⟨_, rfl⟩
  have HP := hid (fun w hL => parse_eq (s := s) (by omega) ⟨hx, hg⟩ w hL)
  have HX := hid (show g = 0 → vB x = true ∧ textB x = s by
    intro h0; subst hx hg; have := parse_ok h0; exact ⟨this.1, str_ext this.2⟩)
  have HY := hid (show ¬ g = 0 → g = 5 ∧ x = u0 by
    intro h0; subst hx hg; exact parse_not h0)
  clear hx hg
  obtain ⟨t, ht⟩ : ∃ t, textB (⟨a1, a2, a3⟩ : U) = t := ⟨_, rfl⟩
  have HTA := hid (fun w hL => text_okT ha ht w hL)
  have HPA := hid (fun w hL => parse_eq (s := t) (x := (⟨a1, a2, a3⟩ : U)) (e := 0) (by rw [← ht]; have := textB_size ha; omega) (by rw [← ht]; exact parse_text _ ha) w hL)
  obtain ⟨u, hu⟩ : ∃ t, textB (⟨b1, b2, b3⟩ : U) = t := ⟨_, rfl⟩
  have HTB := hid (fun w hL => text_okT hb hu w hL)
  have hne1 := str_ne (fun e : t = u => hne (congrArg U.a (textB_inj ha hb (ht.trans (e.trans hu.symm)))))
  clear ht
  clear hu
  clear ha hb
  have HL := hid hL
  clear hL
  have HH := hid (fun w (hL : LayU w) => head_any w hL)
  unfold uV at *
  try dsimp only [addU, sclU, u0] at *
  go_enter Tryd.func6, Tryd.ntmps6
  go_wp2_with fail
  obtain ⟨w0, hw0, hh, hB⟩ := two_unitsT (⟨a1, a2, a3⟩ : U) (⟨b1, b2, b3⟩ : U) w
  rw [hw0]
  clear hw0
  refine (HH.out _ (HL.out.below hB)).mono ?_
  rintro e w1 ⟨rfl, hB1⟩
  replace hh := hh.below hB1
  replace hB := hB.trans (hB1.mono hB.size)
  clear hB1
  obtain ⟨x0a, x0b, x0c⟩ := (hh.get 0 _ _ rfl).three
  obtain ⟨x1a, x1b, x1c⟩ := (hh.get 1 _ _ rfl).three
  try dsimp only [u0, addU, sclU] at x0a x0b x0c x1a x1b x1c
  go_wp2_with fail
  clear x0a x0b x0c x1a x1b x1c
  refine (HTA.out _ (HL.out.below hB)).mono ?_
  rintro e w2 ⟨rfl, hB1⟩
  replace hh := hh.below hB1
  replace hB := hB.trans (hB1.mono hB.size)
  clear hB1
  obtain ⟨x0a, x0b, x0c⟩ := (hh.get 0 _ _ rfl).three
  obtain ⟨x1a, x1b, x1c⟩ := (hh.get 1 _ _ rfl).three
  try dsimp only [u0, addU, sclU] at x0a x0b x0c x1a x1b x1c
  go_wp2_with fail
  clear x0a x0b x0c x1a x1b x1c
  refine (HTB.out _ (HL.out.below hB)).mono ?_
  rintro e w3 ⟨rfl, hB1⟩
  replace hh := hh.below hB1
  replace hB := hB.trans (hB1.mono hB.size)
  clear hB1
  obtain ⟨x0a, x0b, x0c⟩ := (hh.get 0 _ _ rfl).three
  obtain ⟨x1a, x1b, x1c⟩ := (hh.get 1 _ _ rfl).three
  try dsimp only [u0, addU, sclU] at x0a x0b x0c x1a x1b x1c
  go_wp2_with fail
  clear x0a x0b x0c x1a x1b x1c
  refine (HPA.out _ (HL.out.below hB)).mono ?_
  rintro e w4 ⟨rfl, hB1⟩
  replace hh : Un (w4.alloc (Obj.cells #[Value.int .i64 a1, Value.int .i64 a2, Value.int .i64 a3] 23)) [(w4.heap.size, (⟨a1, a2, a3⟩ : U)), (w.heap.size + 1, (⟨b1, b2, b3⟩ : U)), (w.heap.size, (⟨a1, a2, a3⟩ : U))] := (hh.below hB1).new (⟨a1, a2, a3⟩ : U)
  replace hB := (hB.trans (hB1.mono hB.size)).alloc (by have := hB.size; have := hB1.size; omega) (Obj.cells #[Value.int .i64 a1, Value.int .i64 a2, Value.int .i64 a3] 23)
  clear hB1
  obtain ⟨x0a, x0b, x0c⟩ := (hh.get 0 _ _ rfl).three
  obtain ⟨x1a, x1b, x1c⟩ := (hh.get 1 _ _ rfl).three
  obtain ⟨x2a, x2b, x2c⟩ := (hh.get 2 _ _ rfl).three
  try dsimp only [u0, addU, sclU] at x0a x0b x0c x1a x1b x1c x2a x2b x2c
  go_wp2_with fail
  clear x0a x0b x0c x1a x1b x1c x2a x2b x2c
  refine (HP.out _ (HL.out.below hB)).mono ?_
  rintro e w5 ⟨rfl, hB1⟩
  replace hh : Un (w5.alloc (Obj.cells #[Value.int .i64 x.a, Value.int .i64 x.b, Value.int .i64 x.c] 23)) [(w5.heap.size, x), (w4.heap.size, (⟨a1, a2, a3⟩ : U)), (w.heap.size + 1, (⟨b1, b2, b3⟩ : U)), (w.heap.size, (⟨a1, a2, a3⟩ : U))] := (hh.below hB1).new x
  replace hB := (hB.trans (hB1.mono hB.size)).alloc (by have := hB.size; have := hB1.size; omega) (Obj.cells #[Value.int .i64 x.a, Value.int .i64 x.b, Value.int .i64 x.c] 23)
  clear hB1
  obtain ⟨x0a, x0b, x0c⟩ := (hh.get 0 _ _ rfl).three
  obtain ⟨x1a, x1b, x1c⟩ := (hh.get 1 _ _ rfl).three
  obtain ⟨x2a, x2b, x2c⟩ := (hh.get 2 _ _ rfl).three
  obtain ⟨x3a, x3b, x3c⟩ := (hh.get 3 _ _ rfl).three
  try dsimp only [u0, addU, sclU] at x0a x0b x0c x1a x1b x1c x2a x2b x2c x3a x3b x3c
  by_cases hg : g = 0
  · obtain ⟨hx1, hx2⟩ := HX.out hg
    subst hg
    have HQ := hid (fun w hL => text_okT hx1 hx2 w hL)
    unfold uV at HQ
    clear hx1 hx2
    go_wp2_with fail
    refine (HQ.out _ (HL.out.below hB)).mono ?_
    rintro e w6 ⟨rfl, hB1⟩
    replace hh := hh.below hB1
    replace hB := hB.trans (hB1.mono hB.size)
    clear hB1
    obtain ⟨x0a, x0b, x0c⟩ := (hh.get 0 _ _ rfl).three
    obtain ⟨x1a, x1b, x1c⟩ := (hh.get 1 _ _ rfl).three
    obtain ⟨x2a, x2b, x2c⟩ := (hh.get 2 _ _ rfl).three
    obtain ⟨x3a, x3b, x3c⟩ := (hh.get 3 _ _ rfl).three
    try dsimp only [u0, addU, sclU] at x0a x0b x0c x1a x1b x1c x2a x2b x2c x3a x3b x3c
    go_wp2_with fail
    clear x0a x0b x0c x1a x1b x1c x2a x2b x2c x3a x3b x3c
    go_ret
    exact ⟨ret_bool (by first | rfl | simp), hB⟩
  · obtain ⟨rfl, rfl⟩ := HY.out hg
    go_wp2_with fail
    go_ret
    exact ⟨ret_bool (by first | rfl | simp), hB⟩
set_option maxHeartbeats 4000000 in
set_option maxRecDepth 100000 in
theorem texts_good_ne2 (a1 a2 a3 b2 b3 : Int) (s : ByteArray) (w : World) (hL : LayU w) (hs : s.size ≤ 200) (ha : vB (⟨a1, a2, a3⟩ : U) = true) (hb : vB (⟨a1, b2, b3⟩ : U) = true) (hne : ¬ a2 = b2) : Calls Tryd.prog 6 #[uV (⟨a1, a2, a3⟩ : U), uV (⟨a1, b2, b3⟩ : U), .string s] w fun e w' => e = .returned (.bool true) ∧ Below w.heap.size w w' := by
  obtain ⟨x, hx⟩ : ∃ x, parseU s.data.toList = x := ⟨_, rfl⟩
  obtain ⟨g, hg⟩ : ∃ x, parseE s.data.toList = x := ⟨_, rfl⟩
  have HP := hid (fun w hL => parse_eq (s := s) (by omega) ⟨hx, hg⟩ w hL)
  have HX := hid (show g = 0 → vB x = true ∧ textB x = s by
    intro h0; subst hx hg; have := parse_ok h0; exact ⟨this.1, str_ext this.2⟩)
  have HY := hid (show ¬ g = 0 → g = 5 ∧ x = u0 by
    intro h0; subst hx hg; exact parse_not h0)
  clear hx hg
  obtain ⟨t, ht⟩ : ∃ t, textB (⟨a1, a2, a3⟩ : U) = t := ⟨_, rfl⟩
  have HTA := hid (fun w hL => text_okT ha ht w hL)
  have HPA := hid (fun w hL => parse_eq (s := t) (x := (⟨a1, a2, a3⟩ : U)) (e := 0) (by rw [← ht]; have := textB_size ha; omega) (by rw [← ht]; exact parse_text _ ha) w hL)
  obtain ⟨u, hu⟩ : ∃ t, textB (⟨a1, b2, b3⟩ : U) = t := ⟨_, rfl⟩
  have HTB := hid (fun w hL => text_okT hb hu w hL)
  have hne1 := str_ne (fun e : t = u => hne (congrArg U.b (textB_inj ha hb (ht.trans (e.trans hu.symm)))))
  clear ht
  clear hu
  clear ha hb
  have HL := hid hL
  clear hL
  have HH := hid (fun w (hL : LayU w) => head_any w hL)
  unfold uV at *
  try dsimp only [addU, sclU, u0] at *
  go_enter Tryd.func6, Tryd.ntmps6
  go_wp2_with fail
  obtain ⟨w0, hw0, hh, hB⟩ := two_unitsT (⟨a1, a2, a3⟩ : U) (⟨a1, b2, b3⟩ : U) w
  rw [hw0]
  clear hw0
  refine (HH.out _ (HL.out.below hB)).mono ?_
  rintro e w1 ⟨rfl, hB1⟩
  replace hh := hh.below hB1
  replace hB := hB.trans (hB1.mono hB.size)
  clear hB1
  obtain ⟨x0a, x0b, x0c⟩ := (hh.get 0 _ _ rfl).three
  obtain ⟨x1a, x1b, x1c⟩ := (hh.get 1 _ _ rfl).three
  try dsimp only [u0, addU, sclU] at x0a x0b x0c x1a x1b x1c
  go_wp2_with fail
  clear x0a x0b x0c x1a x1b x1c
  refine (HTA.out _ (HL.out.below hB)).mono ?_
  rintro e w2 ⟨rfl, hB1⟩
  replace hh := hh.below hB1
  replace hB := hB.trans (hB1.mono hB.size)
  clear hB1
  obtain ⟨x0a, x0b, x0c⟩ := (hh.get 0 _ _ rfl).three
  obtain ⟨x1a, x1b, x1c⟩ := (hh.get 1 _ _ rfl).three
  try dsimp only [u0, addU, sclU] at x0a x0b x0c x1a x1b x1c
  go_wp2_with fail
  clear x0a x0b x0c x1a x1b x1c
  refine (HTB.out _ (HL.out.below hB)).mono ?_
  rintro e w3 ⟨rfl, hB1⟩
  replace hh := hh.below hB1
  replace hB := hB.trans (hB1.mono hB.size)
  clear hB1
  obtain ⟨x0a, x0b, x0c⟩ := (hh.get 0 _ _ rfl).three
  obtain ⟨x1a, x1b, x1c⟩ := (hh.get 1 _ _ rfl).three
  try dsimp only [u0, addU, sclU] at x0a x0b x0c x1a x1b x1c
  go_wp2_with fail
  clear x0a x0b x0c x1a x1b x1c
  refine (HPA.out _ (HL.out.below hB)).mono ?_
  rintro e w4 ⟨rfl, hB1⟩
  replace hh : Un (w4.alloc (Obj.cells #[Value.int .i64 a1, Value.int .i64 a2, Value.int .i64 a3] 23)) [(w4.heap.size, (⟨a1, a2, a3⟩ : U)), (w.heap.size + 1, (⟨a1, b2, b3⟩ : U)), (w.heap.size, (⟨a1, a2, a3⟩ : U))] := (hh.below hB1).new (⟨a1, a2, a3⟩ : U)
  replace hB := (hB.trans (hB1.mono hB.size)).alloc (by have := hB.size; have := hB1.size; omega) (Obj.cells #[Value.int .i64 a1, Value.int .i64 a2, Value.int .i64 a3] 23)
  clear hB1
  obtain ⟨x0a, x0b, x0c⟩ := (hh.get 0 _ _ rfl).three
  obtain ⟨x1a, x1b, x1c⟩ := (hh.get 1 _ _ rfl).three
  obtain ⟨x2a, x2b, x2c⟩ := (hh.get 2 _ _ rfl).three
  try dsimp only [u0, addU, sclU] at x0a x0b x0c x1a x1b x1c x2a x2b x2c
  go_wp2_with fail
  clear x0a x0b x0c x1a x1b x1c x2a x2b x2c
  refine (HP.out _ (HL.out.below hB)).mono ?_
  rintro e w5 ⟨rfl, hB1⟩
  replace hh : Un (w5.alloc (Obj.cells #[Value.int .i64 x.a, Value.int .i64 x.b, Value.int .i64 x.c] 23)) [(w5.heap.size, x), (w4.heap.size, (⟨a1, a2, a3⟩ : U)), (w.heap.size + 1, (⟨a1, b2, b3⟩ : U)), (w.heap.size, (⟨a1, a2, a3⟩ : U))] := (hh.below hB1).new x
  replace hB := (hB.trans (hB1.mono hB.size)).alloc (by have := hB.size; have := hB1.size; omega) (Obj.cells #[Value.int .i64 x.a, Value.int .i64 x.b, Value.int .i64 x.c] 23)
  clear hB1
  obtain ⟨x0a, x0b, x0c⟩ := (hh.get 0 _ _ rfl).three
  obtain ⟨x1a, x1b, x1c⟩ := (hh.get 1 _ _ rfl).three
  obtain ⟨x2a, x2b, x2c⟩ := (hh.get 2 _ _ rfl).three
  obtain ⟨x3a, x3b, x3c⟩ := (hh.get 3 _ _ rfl).three
  try dsimp only [u0, addU, sclU] at x0a x0b x0c x1a x1b x1c x2a x2b x2c x3a x3b x3c
  by_cases hg : g = 0
  · obtain ⟨hx1, hx2⟩ := HX.out hg
    subst hg
    have HQ := hid (fun w hL => text_okT hx1 hx2 w hL)
    unfold uV at HQ
    clear hx1 hx2
    go_wp2_with fail
    refine (HQ.out _ (HL.out.below hB)).mono ?_
    rintro e w6 ⟨rfl, hB1⟩
    replace hh := hh.below hB1
    replace hB := hB.trans (hB1.mono hB.size)
    clear hB1
    obtain ⟨x0a, x0b, x0c⟩ := (hh.get 0 _ _ rfl).three
    obtain ⟨x1a, x1b, x1c⟩ := (hh.get 1 _ _ rfl).three
    obtain ⟨x2a, x2b, x2c⟩ := (hh.get 2 _ _ rfl).three
    obtain ⟨x3a, x3b, x3c⟩ := (hh.get 3 _ _ rfl).three
    try dsimp only [u0, addU, sclU] at x0a x0b x0c x1a x1b x1c x2a x2b x2c x3a x3b x3c
    go_wp2_with fail
    clear x0a x0b x0c x1a x1b x1c x2a x2b x2c x3a x3b x3c
    go_ret
    exact ⟨ret_bool (by first | rfl | simp), hB⟩
  · obtain ⟨rfl, rfl⟩ := HY.out hg
    go_wp2_with fail
    go_ret
    exact ⟨ret_bool (by first | rfl | simp), hB⟩
set_option maxHeartbeats 4000000 in
set_option maxRecDepth 100000 in
theorem texts_good_ne3 (a1 a2 a3 b3 : Int) (s : ByteArray) (w : World) (hL : LayU w) (hs : s.size ≤ 200) (ha : vB (⟨a1, a2, a3⟩ : U) = true) (hb : vB (⟨a1, a2, b3⟩ : U) = true) (hne : ¬ a3 = b3) : Calls Tryd.prog 6 #[uV (⟨a1, a2, a3⟩ : U), uV (⟨a1, a2, b3⟩ : U), .string s] w fun e w' => e = .returned (.bool true) ∧ Below w.heap.size w w' := by
  obtain ⟨x, hx⟩ : ∃ x, parseU s.data.toList = x := ⟨_, rfl⟩
  obtain ⟨g, hg⟩ : ∃ x, parseE s.data.toList = x := ⟨_, rfl⟩
  have HP := hid (fun w hL => parse_eq (s := s) (by omega) ⟨hx, hg⟩ w hL)
  have HX := hid (show g = 0 → vB x = true ∧ textB x = s by
    intro h0; subst hx hg; have := parse_ok h0; exact ⟨this.1, str_ext this.2⟩)
  have HY := hid (show ¬ g = 0 → g = 5 ∧ x = u0 by
    intro h0; subst hx hg; exact parse_not h0)
  clear hx hg
  obtain ⟨t, ht⟩ : ∃ t, textB (⟨a1, a2, a3⟩ : U) = t := ⟨_, rfl⟩
  have HTA := hid (fun w hL => text_okT ha ht w hL)
  have HPA := hid (fun w hL => parse_eq (s := t) (x := (⟨a1, a2, a3⟩ : U)) (e := 0) (by rw [← ht]; have := textB_size ha; omega) (by rw [← ht]; exact parse_text _ ha) w hL)
  obtain ⟨u, hu⟩ : ∃ t, textB (⟨a1, a2, b3⟩ : U) = t := ⟨_, rfl⟩
  have HTB := hid (fun w hL => text_okT hb hu w hL)
  have hne1 := str_ne (fun e : t = u => hne (congrArg U.c (textB_inj ha hb (ht.trans (e.trans hu.symm)))))
  clear ht
  clear hu
  clear ha hb
  have HL := hid hL
  clear hL
  have HH := hid (fun w (hL : LayU w) => head_any w hL)
  unfold uV at *
  try dsimp only [addU, sclU, u0] at *
  go_enter Tryd.func6, Tryd.ntmps6
  go_wp2_with fail
  obtain ⟨w0, hw0, hh, hB⟩ := two_unitsT (⟨a1, a2, a3⟩ : U) (⟨a1, a2, b3⟩ : U) w
  rw [hw0]
  clear hw0
  refine (HH.out _ (HL.out.below hB)).mono ?_
  rintro e w1 ⟨rfl, hB1⟩
  replace hh := hh.below hB1
  replace hB := hB.trans (hB1.mono hB.size)
  clear hB1
  obtain ⟨x0a, x0b, x0c⟩ := (hh.get 0 _ _ rfl).three
  obtain ⟨x1a, x1b, x1c⟩ := (hh.get 1 _ _ rfl).three
  try dsimp only [u0, addU, sclU] at x0a x0b x0c x1a x1b x1c
  go_wp2_with fail
  clear x0a x0b x0c x1a x1b x1c
  refine (HTA.out _ (HL.out.below hB)).mono ?_
  rintro e w2 ⟨rfl, hB1⟩
  replace hh := hh.below hB1
  replace hB := hB.trans (hB1.mono hB.size)
  clear hB1
  obtain ⟨x0a, x0b, x0c⟩ := (hh.get 0 _ _ rfl).three
  obtain ⟨x1a, x1b, x1c⟩ := (hh.get 1 _ _ rfl).three
  try dsimp only [u0, addU, sclU] at x0a x0b x0c x1a x1b x1c
  go_wp2_with fail
  clear x0a x0b x0c x1a x1b x1c
  refine (HTB.out _ (HL.out.below hB)).mono ?_
  rintro e w3 ⟨rfl, hB1⟩
  replace hh := hh.below hB1
  replace hB := hB.trans (hB1.mono hB.size)
  clear hB1
  obtain ⟨x0a, x0b, x0c⟩ := (hh.get 0 _ _ rfl).three
  obtain ⟨x1a, x1b, x1c⟩ := (hh.get 1 _ _ rfl).three
  try dsimp only [u0, addU, sclU] at x0a x0b x0c x1a x1b x1c
  go_wp2_with fail
  clear x0a x0b x0c x1a x1b x1c
  refine (HPA.out _ (HL.out.below hB)).mono ?_
  rintro e w4 ⟨rfl, hB1⟩
  replace hh : Un (w4.alloc (Obj.cells #[Value.int .i64 a1, Value.int .i64 a2, Value.int .i64 a3] 23)) [(w4.heap.size, (⟨a1, a2, a3⟩ : U)), (w.heap.size + 1, (⟨a1, a2, b3⟩ : U)), (w.heap.size, (⟨a1, a2, a3⟩ : U))] := (hh.below hB1).new (⟨a1, a2, a3⟩ : U)
  replace hB := (hB.trans (hB1.mono hB.size)).alloc (by have := hB.size; have := hB1.size; omega) (Obj.cells #[Value.int .i64 a1, Value.int .i64 a2, Value.int .i64 a3] 23)
  clear hB1
  obtain ⟨x0a, x0b, x0c⟩ := (hh.get 0 _ _ rfl).three
  obtain ⟨x1a, x1b, x1c⟩ := (hh.get 1 _ _ rfl).three
  obtain ⟨x2a, x2b, x2c⟩ := (hh.get 2 _ _ rfl).three
  try dsimp only [u0, addU, sclU] at x0a x0b x0c x1a x1b x1c x2a x2b x2c
  go_wp2_with fail
  clear x0a x0b x0c x1a x1b x1c x2a x2b x2c
  refine (HP.out _ (HL.out.below hB)).mono ?_
  rintro e w5 ⟨rfl, hB1⟩
  replace hh : Un (w5.alloc (Obj.cells #[Value.int .i64 x.a, Value.int .i64 x.b, Value.int .i64 x.c] 23)) [(w5.heap.size, x), (w4.heap.size, (⟨a1, a2, a3⟩ : U)), (w.heap.size + 1, (⟨a1, a2, b3⟩ : U)), (w.heap.size, (⟨a1, a2, a3⟩ : U))] := (hh.below hB1).new x
  replace hB := (hB.trans (hB1.mono hB.size)).alloc (by have := hB.size; have := hB1.size; omega) (Obj.cells #[Value.int .i64 x.a, Value.int .i64 x.b, Value.int .i64 x.c] 23)
  clear hB1
  obtain ⟨x0a, x0b, x0c⟩ := (hh.get 0 _ _ rfl).three
  obtain ⟨x1a, x1b, x1c⟩ := (hh.get 1 _ _ rfl).three
  obtain ⟨x2a, x2b, x2c⟩ := (hh.get 2 _ _ rfl).three
  obtain ⟨x3a, x3b, x3c⟩ := (hh.get 3 _ _ rfl).three
  try dsimp only [u0, addU, sclU] at x0a x0b x0c x1a x1b x1c x2a x2b x2c x3a x3b x3c
  by_cases hg : g = 0
  · obtain ⟨hx1, hx2⟩ := HX.out hg
    subst hg
    have HQ := hid (fun w hL => text_okT hx1 hx2 w hL)
    unfold uV at HQ
    clear hx1 hx2
    go_wp2_with fail
    refine (HQ.out _ (HL.out.below hB)).mono ?_
    rintro e w6 ⟨rfl, hB1⟩
    replace hh := hh.below hB1
    replace hB := hB.trans (hB1.mono hB.size)
    clear hB1
    obtain ⟨x0a, x0b, x0c⟩ := (hh.get 0 _ _ rfl).three
    obtain ⟨x1a, x1b, x1c⟩ := (hh.get 1 _ _ rfl).three
    obtain ⟨x2a, x2b, x2c⟩ := (hh.get 2 _ _ rfl).three
    obtain ⟨x3a, x3b, x3c⟩ := (hh.get 3 _ _ rfl).three
    try dsimp only [u0, addU, sclU] at x0a x0b x0c x1a x1b x1c x2a x2b x2c x3a x3b x3c
    go_wp2_with fail
    clear x0a x0b x0c x1a x1b x1c x2a x2b x2c x3a x3b x3c
    go_ret
    exact ⟨ret_bool (by first | rfl | simp), hB⟩
  · obtain ⟨rfl, rfl⟩ := HY.out hg
    go_wp2_with fail
    go_ret
    exact ⟨ret_bool (by first | rfl | simp), hB⟩
set_option maxHeartbeats 4000000 in
set_option maxRecDepth 100000 in
theorem texts_good_eq (a : U) (s : ByteArray) (w : World) (hL : LayU w) (hs : s.size ≤ 200) (ha : vB a = true)  : Calls Tryd.prog 6 #[uV a, uV a, .string s] w fun e w' => e = .returned (.bool true) ∧ Below w.heap.size w w' := by
  obtain ⟨x, hx⟩ : ∃ x, parseU s.data.toList = x := ⟨_, rfl⟩
  obtain ⟨g, hg⟩ : ∃ x, parseE s.data.toList = x := ⟨_, rfl⟩
  have HP := hid (fun w hL => parse_eq (s := s) (by omega) ⟨hx, hg⟩ w hL)
  have HX := hid (show g = 0 → vB x = true ∧ textB x = s by
    intro h0; subst hx hg; have := parse_ok h0; exact ⟨this.1, str_ext this.2⟩)
  have HY := hid (show ¬ g = 0 → g = 5 ∧ x = u0 by
    intro h0; subst hx hg; exact parse_not h0)
  clear hx hg
  obtain ⟨t, ht⟩ : ∃ t, textB a = t := ⟨_, rfl⟩
  have HTA := hid (fun w hL => text_okT ha ht w hL)
  have HPA := hid (fun w hL => parse_eq (s := t) (x := a) (e := 0) (by rw [← ht]; have := textB_size ha; omega) (by rw [← ht]; exact parse_text _ ha) w hL)
  clear ht
  clear ha
  have HL := hid hL
  clear hL
  have HH := hid (fun w (hL : LayU w) => head_any w hL)
  unfold uV at *
  try dsimp only [addU, sclU, u0] at *
  go_enter Tryd.func6, Tryd.ntmps6
  go_wp2_with fail
  obtain ⟨w0, hw0, hh, hB⟩ := two_unitsT a a w
  rw [hw0]
  clear hw0
  refine (HH.out _ (HL.out.below hB)).mono ?_
  rintro e w1 ⟨rfl, hB1⟩
  replace hh := hh.below hB1
  replace hB := hB.trans (hB1.mono hB.size)
  clear hB1
  obtain ⟨x0a, x0b, x0c⟩ := (hh.get 0 _ _ rfl).three
  obtain ⟨x1a, x1b, x1c⟩ := (hh.get 1 _ _ rfl).three
  try dsimp only [u0, addU, sclU] at x0a x0b x0c x1a x1b x1c
  go_wp2_with fail
  clear x0a x0b x0c x1a x1b x1c
  refine (HTA.out _ (HL.out.below hB)).mono ?_
  rintro e w2 ⟨rfl, hB1⟩
  replace hh := hh.below hB1
  replace hB := hB.trans (hB1.mono hB.size)
  clear hB1
  obtain ⟨x0a, x0b, x0c⟩ := (hh.get 0 _ _ rfl).three
  obtain ⟨x1a, x1b, x1c⟩ := (hh.get 1 _ _ rfl).three
  try dsimp only [u0, addU, sclU] at x0a x0b x0c x1a x1b x1c
  go_wp2_with fail
  clear x0a x0b x0c x1a x1b x1c
  refine (HTA.out _ (HL.out.below hB)).mono ?_
  rintro e w3 ⟨rfl, hB1⟩
  replace hh := hh.below hB1
  replace hB := hB.trans (hB1.mono hB.size)
  clear hB1
  obtain ⟨x0a, x0b, x0c⟩ := (hh.get 0 _ _ rfl).three
  obtain ⟨x1a, x1b, x1c⟩ := (hh.get 1 _ _ rfl).three
  try dsimp only [u0, addU, sclU] at x0a x0b x0c x1a x1b x1c
  go_wp2_with fail
  clear x0a x0b x0c x1a x1b x1c
  refine (HPA.out _ (HL.out.below hB)).mono ?_
  rintro e w4 ⟨rfl, hB1⟩
  replace hh : Un (w4.alloc (Obj.cells #[Value.int .i64 a.a, Value.int .i64 a.b, Value.int .i64 a.c] 23)) [(w4.heap.size, a), (w.heap.size + 1, a), (w.heap.size, a)] := (hh.below hB1).new a
  replace hB := (hB.trans (hB1.mono hB.size)).alloc (by have := hB.size; have := hB1.size; omega) (Obj.cells #[Value.int .i64 a.a, Value.int .i64 a.b, Value.int .i64 a.c] 23)
  clear hB1
  obtain ⟨x0a, x0b, x0c⟩ := (hh.get 0 _ _ rfl).three
  obtain ⟨x1a, x1b, x1c⟩ := (hh.get 1 _ _ rfl).three
  obtain ⟨x2a, x2b, x2c⟩ := (hh.get 2 _ _ rfl).three
  try dsimp only [u0, addU, sclU] at x0a x0b x0c x1a x1b x1c x2a x2b x2c
  go_wp2_with fail
  clear x0a x0b x0c x1a x1b x1c x2a x2b x2c
  refine (HP.out _ (HL.out.below hB)).mono ?_
  rintro e w5 ⟨rfl, hB1⟩
  replace hh : Un (w5.alloc (Obj.cells #[Value.int .i64 x.a, Value.int .i64 x.b, Value.int .i64 x.c] 23)) [(w5.heap.size, x), (w4.heap.size, a), (w.heap.size + 1, a), (w.heap.size, a)] := (hh.below hB1).new x
  replace hB := (hB.trans (hB1.mono hB.size)).alloc (by have := hB.size; have := hB1.size; omega) (Obj.cells #[Value.int .i64 x.a, Value.int .i64 x.b, Value.int .i64 x.c] 23)
  clear hB1
  obtain ⟨x0a, x0b, x0c⟩ := (hh.get 0 _ _ rfl).three
  obtain ⟨x1a, x1b, x1c⟩ := (hh.get 1 _ _ rfl).three
  obtain ⟨x2a, x2b, x2c⟩ := (hh.get 2 _ _ rfl).three
  obtain ⟨x3a, x3b, x3c⟩ := (hh.get 3 _ _ rfl).three
  try dsimp only [u0, addU, sclU] at x0a x0b x0c x1a x1b x1c x2a x2b x2c x3a x3b x3c
  by_cases hg : g = 0
  · obtain ⟨hx1, hx2⟩ := HX.out hg
    subst hg
    have HQ := hid (fun w hL => text_okT hx1 hx2 w hL)
    unfold uV at HQ
    clear hx1 hx2
    go_wp2_with fail
    refine (HQ.out _ (HL.out.below hB)).mono ?_
    rintro e w6 ⟨rfl, hB1⟩
    replace hh := hh.below hB1
    replace hB := hB.trans (hB1.mono hB.size)
    clear hB1
    obtain ⟨x0a, x0b, x0c⟩ := (hh.get 0 _ _ rfl).three
    obtain ⟨x1a, x1b, x1c⟩ := (hh.get 1 _ _ rfl).three
    obtain ⟨x2a, x2b, x2c⟩ := (hh.get 2 _ _ rfl).three
    obtain ⟨x3a, x3b, x3c⟩ := (hh.get 3 _ _ rfl).three
    try dsimp only [u0, addU, sclU] at x0a x0b x0c x1a x1b x1c x2a x2b x2c x3a x3b x3c
    go_wp2_with fail
    clear x0a x0b x0c x1a x1b x1c x2a x2b x2c x3a x3b x3c
    go_ret
    exact ⟨ret_bool (by first | rfl | simp), hB⟩
  · obtain ⟨rfl, rfl⟩ := HY.out hg
    go_wp2_with fail
    go_ret
    exact ⟨ret_bool (by first | rfl | simp), hB⟩
theorem texts_fin (a b : U) (s : ByteArray) (w : World) (_h0 : UnitWf a) (_h1 : UnitWf b) (_h2 : s.size ≤ maxLen) (hL : LayU w) : Calls Tryd.prog 6 #[uV a, uV b, .string s] w fun e w' => e = .returned (.bool true) ∧ Below w.heap.size w w' := by
  by_cases hs : 200 < s.size
  · exact texts_long a b s w hL hs
  replace hs : s.size ≤ 200 := by omega
  cases ha : vB a with
  | false =>
    cases hb : vB b with
    | false => exact texts_bad_bad a b s w hL hs ha hb
    | true => exact texts_bad_good a b s w hL hs ha hb
  | true =>
    cases hb : vB b with
    | false => exact texts_good_bad a b s w hL hs ha hb
    | true =>
      obtain ⟨a1, a2, a3⟩ := a
      obtain ⟨b1, b2, b3⟩ := b
      by_cases h1 : a1 = b1
      · subst h1
        by_cases h2 : a2 = b2
        · subst h2
          by_cases h3 : a3 = b3
          · subst h3; exact texts_good_eq _ s w hL hs ha
          · exact texts_good_ne3 _ _ _ _ s w hL hs ha hb h3
        · exact texts_good_ne2 _ _ _ _ _ s w hL hs ha hb h2
      · exact texts_good_ne1 _ _ _ _ _ _ s w hL hs ha hb h1
end Go.Proofs.YtmfoincmjpogmaaDoor
