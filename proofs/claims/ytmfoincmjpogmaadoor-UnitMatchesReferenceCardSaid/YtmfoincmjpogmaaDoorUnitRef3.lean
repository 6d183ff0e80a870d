/- unit: the reference: Text -/
import Derived.Test.YtmfoincmjpogmaaDoorUnitRef2
namespace Go.Proofs.YtmfoincmjpogmaaDoor
open Go.RowKit

def digOk : Bool := (List.range 17).all fun k =>
  let n : Int := (k : Int) - 8
  decide ((94 :: Lib.itoa n) = if n < 0 then [94, 45] ++ (digS.extract (-n).toNat (1 - n).toNat).data.toList else [94] ++ (digS.extract n.toNat (n + 1).toNat).data.toList)
set_option maxRecDepth 100000 in
theorem digOk_true : digOk = true := by kernel_rfl
theorem dig_of {n : Int} (h : -8 ≤ n ∧ n ≤ 8) : (94 :: Lib.itoa n) = if n < 0 then [94, 45] ++ (digS.extract (-n).toNat (1 - n).toNat).data.toList else [94] ++ (digS.extract n.toNat (n + 1).toNat).data.toList := by
  have h1 := digOk_true
  unfold digOk at h1
  rw [List.all_eq_true] at h1
  have h2 := h1 (n + 8).toNat (by simp; omega)
  have e : (((n + 8).toNat : Nat) : Int) - 8 = n := by omega
  simp only [e, decide_eq_true_eq] at h2
  exact h2
theorem join_snoc : ∀ (xs : List (List UInt8)) (f : List UInt8), xs ≠ [] → Lib.join (xs ++ [f]) [32] = Lib.join xs [32] ++ 32 :: f
  | [], _, h => absurd rfl h
  | [x], f, _ => by rw [List.singleton_append, join_cons2, join_one, join_one]
  | x :: y :: r, f, _ => by
    have ih := join_snoc (y :: r) f (by simp)
    rw [List.cons_append, List.cons_append, join_cons2, ← List.cons_append, ih, join_cons2]
    simp
theorem join_ne {xs : List (List UInt8)} (h : xs ≠ []) (hw : ∀ x ∈ xs, wordB x = true) : Lib.join xs [32] ≠ [] := by
  match xs, h with
  | [x], _ => rw [join_one]; exact wordB_ne (hw x (by simp))
  | x :: y :: r, _ => rw [join_cons2]; simp
theorem facB_join {s nm : ByteArray} {n : Int} {xs : List (List UInt8)} (hs : s.data.toList = Lib.join xs [32]) (hw : ∀ x ∈ xs, wordB x = true) (hn : -8 ≤ n ∧ n ≤ 8) :
    (facB s nm n).data.toList = Lib.join (xs ++ facW nm n) [32] := by
  unfold facB facW facS
  by_cases h0 : n = 0
  · rw [if_pos h0, if_pos h0, List.map_nil, List.append_nil]; exact hs
  · rw [if_neg h0, if_neg h0]
    have hd := dig_of hn
    have key : ∀ f : List UInt8, (if xs = [] then f else Lib.join xs [32] ++ 32 :: f) = Lib.join (xs ++ [f]) [32] := by
      intro f
      by_cases hx : xs = []
      · rw [if_pos hx, hx, List.nil_append, join_one]
      · rw [if_neg hx, join_snoc xs f hx]
    have hse : s.toList = [] ↔ xs = [] := by
      rw [ByteArray.toList_eq, hs]
      constructor
      · intro h
        by_cases hx : xs = []
        · exact hx
        · exact absurd h (join_ne hx hw)
      · intro h; rw [h]; rfl
    by_cases h1 : n = 1
    · simp only [if_pos h1, List.map_cons, List.map_nil]
      rw [← key]
      by_cases hx : xs = []
      · rw [if_pos hx, if_pos (hse.2 hx)]
        simp [hs, hx, Lib.join_nil]
      · rw [if_neg hx, if_neg (fun h => hx (hse.1 h))]
        simp [hs]
    · simp only [if_neg h1, List.map_cons, List.map_nil]
      rw [← key]
      have hf : (nm ++ (⟨#[94]⟩ : ByteArray) ++ ⟨(Lib.itoa n).toArray⟩).data.toList = nm.data.toList ++ 94 :: Lib.itoa n := by simp
      rw [hf, hd]
      by_cases hneg : n < 0
      · simp only [if_pos hneg]
        by_cases hx : xs = []
        · rw [if_pos hx, if_pos (hse.2 hx)]
          simp [hs, hx, Lib.join_nil]
        · rw [if_neg hx, if_neg (fun h => hx (hse.1 h))]
          simp [hs]
      · simp only [if_neg hneg]
        by_cases hx : xs = []
        · rw [if_pos hx, if_pos (hse.2 hx)]
          simp [hs, hx, Lib.join_nil]
        · rw [if_neg hx, if_neg (fun h => hx (hse.1 h))]
          simp [hs]
def f1B (u : U) : ByteArray := facB ⟨#[]⟩ nmC u.a
def f2B (u : U) : ByteArray := facB (f1B u) nmE u.b
def f3B (u : U) : ByteArray := facB (f2B u) nmS u.c
theorem f_join {u : U} (h : vB u = true) : (f1B u).data.toList = Lib.join (facW nmC u.a) [32] ∧ (f2B u).data.toList = Lib.join (facW nmC u.a ++ facW nmE u.b) [32] ∧ (f3B u).data.toList = Lib.join (facW nmC u.a ++ facW nmE u.b ++ facW nmS u.c) [32] := by
  obtain ⟨h1, h2, h3⟩ := (vB_iff u).1 h
  have hall := facW_all u h
  have e1 : (f1B u).data.toList = Lib.join (facW nmC u.a) [32] := by
    have := facB_join (s := ⟨#[]⟩) (nm := nmC) (n := u.a) (xs := []) (by rfl) (by simp) h1
    rwa [List.nil_append] at this
  have e2 := facB_join (s := f1B u) (nm := nmE) (n := u.b) e1 (fun x hx => hall x (by simp [hx])) h2
  have e3 := facB_join (s := f2B u) (nm := nmS) (n := u.c) e2 (fun x hx => hall x (by rw [List.mem_append] at hx ⊢; exact .inl (List.mem_append.2 hx))) h3
  exact ⟨e1, e2, e3⟩
theorem textB_f3 {u : U} (h : vB u = true) : textB u = if (f3B u).toList = [] then ⟨#[49]⟩ else f3B u := by
  have e3 := (f_join h).2.2
  have hall := facW_all u h
  unfold textB
  have hm := facs_map u
  by_cases he : facs u 3 = []
  · rw [he, List.map_nil] at hm
    rw [if_pos he, if_pos]
    rw [ByteArray.toList_eq, e3, ← hm]; rfl
  · have hne : facW nmC u.a ++ facW nmE u.b ++ facW nmS u.c ≠ [] := by
      rw [← hm]; intro e; exact he (List.map_eq_nil_iff.1 e)
    rw [if_neg he, if_neg]
    · apply str_ext
      rw [e3, hm]
    · rw [ByteArray.toList_eq, e3]; exact join_ne hne hall
theorem facB_size (s nm : ByteArray) (n : Int) (hn : -8 ≤ n ∧ n ≤ 8) : (facB s nm n).size ≤ s.size + nm.size + 13 := by
  have d1 := dig_size (a := (-n).toNat) (b := (1 - n).toNat) (by omega)
  have d2 := dig_size (a := n.toNat) (b := (n + 1).toNat) (by omega)
  have e1 : (⟨#[32]⟩ : ByteArray).size = 1 := rfl
  have e2 : (⟨#[94, 45]⟩ : ByteArray).size = 2 := rfl
  have e3 : (⟨#[94]⟩ : ByteArray).size = 1 := rfl
  unfold facB
  split
  · omega
  · dsimp only
    split <;> split <;> (try split) <;> simp only [ByteArray.size_append, e1, e2, e3] <;> omega

set_option maxHeartbeats 2000000 in
set_option maxRecDepth 100000 in
theorem rtext_good (u : U) (w : World) (hv : vB u = true) : Calls Tryd.prog 14 #[uV u] w fun e w' => e = .returned (.tuple #[.string (textB u), .int .i64 0]) ∧ Below w.heap.size w w' := by
  obtain ⟨⟨u1, u2⟩, ⟨u3, u4⟩, u5, u6⟩ := (vB_iff u).1 hv
  have V1 := hid (fun w => rvalid_is hv w)
  have hC : nmC.size = 6 := rfl
  have hE : nmE.size = 9 := rfl
  have hS : nmS.size = 7 := rfl
  have z1 : (f1B u).size ≤ 100 := by have := facB_size ⟨#[]⟩ nmC u.a ⟨u1, u2⟩; have e : (⟨#[]⟩ : ByteArray).size = 0 := rfl; unfold f1B; omega
  have z2 : (f2B u).size ≤ 200 := by have := facB_size (f1B u) nmE u.b ⟨u3, u4⟩; unfold f2B; omega
  have F1 := hid (fun w => rfac_any ⟨#[]⟩ nmC u.a w (by decide) (by decide) u1 u2)
  have F2 := hid (fun w => rfac_any (f1B u) nmE u.b w (by omega) (by decide) u3 u4)
  have F3 := hid (fun w => rfac_any (f2B u) nmS u.c w (by omega) (by decide) u5 u6)
  have HX := hid (textB_f3 hv)
  have g1 : facB ⟨#[]⟩ nmC u.a = f1B u := rfl
  have g2 : facB (f1B u) nmE u.b = f2B u := rfl
  have g3 : facB (f2B u) nmS u.c = f3B u := rfl
  rw [g1] at F1
  rw [g2] at F2
  rw [g3] at F3
  clear g1 g2 g3 hv hC hE hS z1 z2
  rw [HX.out]
  generalize f1B u = S1 at *
  generalize f2B u = S2 at *
  generalize f3B u = S3 at *
  have HX2 : ∃ X : ByteArray, Hid ((if S3.toList = [] then (⟨#[49]⟩ : ByteArray) else S3) = X) := ⟨_, hid rfl⟩
  obtain ⟨X, HX2⟩ := HX2
  rw [HX2.out]
  clear HX
  unfold uV nmC nmE nmS at *
  go_enter Tryd.func14, Tryd.ntmps14
  go_wp2_with fail
  obtain ⟨w0, hw0, hh, hB⟩ := unit_worldR u w
  rw [hw0]
  clear hw0
  refine (V1.out _).mono ?_
  rintro e w1 ⟨rfl, hB1⟩
  replace hh := hh.below hB1
  replace hB := hB.trans (hB1.mono hB.size)
  clear hB1
  go_wp2_with fail
  obtain ⟨xa, xb, xc⟩ := (hh.get 0 _ _ rfl).three
  have ka := cell_regrown xa
  have kb := cell_regrown xb
  have kc := cell_regrown xc
  have c1 := hid (fun d os => Calls.regrown_of ((F1.out (Go.Sort.grow (redrawn w1 d) os)).mono (by rintro e w' ⟨rfl, rfl⟩; exact ⟨rfl, Below.refl _ _⟩)))
  have c2 := hid (fun d os => Calls.regrown_of ((F2.out (Go.Sort.grow (redrawn w1 d) os)).mono (by rintro e w' ⟨rfl, rfl⟩; exact ⟨rfl, Below.refl _ _⟩)))
  have c3 := hid (fun d os => Calls.regrown_of ((F3.out (Go.Sort.grow (redrawn w1 d) os)).mono (by rintro e w' ⟨rfl, rfl⟩; exact ⟨rfl, Below.refl _ _⟩)))
  clear xa xb xc hh
  refine wp_region_quiet_below (by kernel_rfl) (by kernel_rfl) ?_
  iterate 2 (first | go_big_quiet_step (fail) | quiet_step (fail))
  (first | go_big_quiet_step (exact c1.out _ _) | quiet_step (exact c1.out _ _))
  iterate 2 (first | go_big_quiet_step (fail) | quiet_step (fail))
  (first | go_big_quiet_step (exact c2.out _ _) | quiet_step (exact c2.out _ _))
  iterate 2 (first | go_big_quiet_step (fail) | quiet_step (fail))
  (first | go_big_quiet_step (exact c3.out _ _) | quiet_step (exact c3.out _ _))
  iterate 1 (first | go_big_quiet_step (fail) | quiet_step (fail))
  refine wpQuiet_nil ?_
  intro _ hw'
  obtain ⟨⟨dq, osq⟩, hw''⟩ := hw'
  subst hw''
  replace hB := hB.trans ((below_regrown w1 dq osq).mono hB.size)
  clear ka kb kc c1 c2 c3
  generalize Go.Sort.grow (redrawn w1 { d := dq, os := osq : Regrown }.d) { d := dq, os := osq : Regrown }.os = wz at *
  by_cases hse : S3.toList = []
  · have hX : X = ⟨#[49]⟩ := by rw [← HX2.out, if_pos hse]
    subst hX
    have he : S3 = ⟨#[]⟩ := by apply str_ext; rw [ByteArray.toList_eq] at hse; exact hse
    subst he
    clear hse
    go_wp2_with fail
    go_ret2
    exact ⟨rfl, hB⟩
  · have hX : X = S3 := by rw [← HX2.out, if_neg hse]
    subst hX
    have hse2 : X.toList.isEmpty = false := by cases h : X.toList with | nil => exact absurd h hse | cons _ _ => rfl
    go_wp2_with fail
    go_ret2
    exact ⟨rfl, hB⟩
set_option maxHeartbeats 2000000 in
set_option maxRecDepth 100000 in
theorem rtext_bad (u : U) (w : World) (hv : vB u = false) : Calls Tryd.prog 14 #[uV u] w fun e w' => e = .returned (.tuple #[.string ⟨#[]⟩, .int .i64 1]) ∧ Below w.heap.size w w' := by
  have V1 := hid (fun w => rvalid_is hv w)
  clear hv
  unfold uV at *
  go_enter Tryd.func14, Tryd.ntmps14
  go_wp2_with fail
  refine (V1.out _).mono ?_
  rintro e w1 ⟨rfl, hB1⟩
  have hB := unalloc hB1
  clear hB1
  go_wp2_with fail
  go_ret2
  exact ⟨rfl, hB⟩
end Go.Proofs.YtmfoincmjpogmaaDoor
