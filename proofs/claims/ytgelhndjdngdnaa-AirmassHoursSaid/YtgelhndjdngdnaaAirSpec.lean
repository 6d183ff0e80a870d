/- airmass: the contracts of all functions, for every input; the helpers of the statements; the chapter's examples -/
import Derived.Test.YtgelhndjdngdnaaAirPlain
import Derived.Test.YtgelhndjdngdnaaLibQ
namespace Go.Proofs.Ytgelhndjdngdnaa
open Go.RowKit

def mOk (m : Int) : Prop := 0 ≤ m ∧ m ≤ 38399
instance (m : Int) : Decidable (mOk m) := by unfold mOk; infer_instance
def cOk (c : Int) : Prop := 0 ≤ c ∧ c < 32
instance (m : Int) : Decidable (cOk m) := by unfold cOk; infer_instance
def stOk (s t : Int) : Prop := 0 ≤ s ∧ s < 16 ∧ 0 ≤ t ∧ t < 512
instance (s t : Int) : Decidable (stOk s t) := by unfold stOk; infer_instance
def nOk (n : Int) : Prop := 0 ≤ n ∧ n < 400
instance (n : Int) : Decidable (nOk n) := by unfold nOk; infer_instance

def hourV (c m : Int) : Int := if cOk c ∧ mOk m then hourF c m else 0
def hourE (c m : Int) : Int := if cOk c ∧ mOk m then 0 else 1
def heightV (s t m : Int) : Int := if stOk s t ∧ mOk m then heightF s t m else 0
def heightE (s t m : Int) : Int := if stOk s t ∧ mOk m then 0 else 1
def airV (h : Int) : Int := if 900 < h then 0 else if h < 100 then 0 else 900000 / h
def airE (h : Int) : Int := if 900 < h then 1 else if h < 100 then 19 else 0
def sidV (m : Int) : Int := if mOk m then sid m else 0
def sidE (m : Int) : Int := if mOk m then 0 else 1
def wOk (s t n : Int) : Prop := stOk s t ∧ nOk n
instance (s t n : Int) : Decidable (wOk s t n) := by unfold wOk; infer_instance
def wins (s t n least : Int) : List (Int × Int) := if wOk s t n then rwinF least (slotsP s t n 96) else []
def winE (s t n : Int) : Int := if wOk s t n then 0 else 1

theorem hour_any (c m : Int) (w : World) : Calls Try.prog 11 #[.int .i64 c, .int .i64 m] w fun e w' => e = .returned (.tuple #[.int .i64 (hourV c m), .int .i64 (hourE c m)]) ∧ w = w' := by
  unfold hourV hourE
  by_cases h : cOk c ∧ mOk m
  · rw [if_pos h, if_pos h]; exact hour_yes c m w h.1.1 h.1.2 h.2.1 h.2.2
  · rw [if_neg h, if_neg h]; exact hour_no c m w h
theorem rhour_all (c m : Int) (w : World) : Calls Try.prog 12 #[.int .i64 c, .int .i64 m] w fun e w' => e = .returned (.tuple #[.int .i64 (hourV c m), .int .i64 (hourE c m)]) ∧ w = w' := by
  unfold hourV hourE
  by_cases h : cOk c ∧ mOk m
  · rw [if_pos h, if_pos h]; exact rhour_yes c m w h.1.1 h.1.2 h.2.1 h.2.2
  · rw [if_neg h, if_neg h]; exact rhour_no c m w h
theorem height_any (s t m : Int) (w : World) : Calls Try.prog 13 #[.int .i64 s, .int .i64 t, .int .i64 m] w fun e w' => e = .returned (.tuple #[.int .i64 (heightV s t m), .int .i64 (heightE s t m)]) ∧ w = w' := by
  unfold heightV heightE
  by_cases h : stOk s t ∧ mOk m
  · rw [if_pos h, if_pos h]; exact height_yes s t m w h.1 h.2.1 h.2.2
  · rw [if_neg h, if_neg h]; exact height_no s t m w h
theorem rheight_all (s t m : Int) (w : World) : Calls Try.prog 14 #[.int .i64 s, .int .i64 t, .int .i64 m] w fun e w' => e = .returned (.tuple #[.int .i64 (heightV s t m), .int .i64 (heightE s t m)]) ∧ w = w' := by
  unfold heightV heightE
  by_cases h : stOk s t ∧ mOk m
  · rw [if_pos h, if_pos h]; exact rheight_yes s t m w h.1 h.2.1 h.2.2
  · rw [if_neg h, if_neg h]; exact rheight_no s t m w h
theorem air_any (h : Int) (w : World) : Calls Try.prog 15 #[.int .i64 h] w fun e w' => e = .returned (.tuple #[.int .i64 (airV h), .int .i64 (airE h)]) ∧ w = w' := by
  unfold airV airE
  by_cases h1 : 900 < h
  · rw [if_pos h1, if_pos h1]; exact air_high h w h1
  · rw [if_neg h1, if_neg h1]
    by_cases h2 : h < 100
    · rw [if_pos h2, if_pos h2]; exact air_low h w h2
    · rw [if_neg h2, if_neg h2]; exact air_yes h w (by omega) (by omega)
theorem rair_all (h : Int) (w : World) : Calls Try.prog 16 #[.int .i64 h] w fun e w' => e = .returned (.tuple #[.int .i64 (airV h), .int .i64 (airE h)]) ∧ w = w' := by
  unfold airV airE
  by_cases h1 : 900 < h
  · rw [if_pos h1, if_pos h1]; exact rair_high h w h1
  · rw [if_neg h1, if_neg h1]
    by_cases h2 : h < 100
    · rw [if_pos h2, if_pos h2]; exact rair_low h w h2
    · rw [if_neg h2, if_neg h2]; exact rair_yes h w (by omega) (by omega)
theorem sid_any (m : Int) (w : World) : Calls Try.prog 21 #[.int .i64 m] w fun e w' => e = .returned (.tuple #[.int .i64 (sidV m), .int .i64 (sidE m)]) ∧ w = w' := by
  unfold sidV sidE
  by_cases h : mOk m
  · rw [if_pos h, if_pos h]; exact sidereal_yes m w h.1 h.2
  · rw [if_neg h, if_neg h]; exact sidereal_no m w h

theorem rwinF_len (least : Int) (g : Nat → Int) (k : Nat) : (rwinF least (xsG g k)).length ≤ k := by
  induction k with
  | zero => simp [xsG, rwinF]
  | succ k ih => rw [xsG_succ, rwinF_snoc]; have := rStep_len least (rwinF least (xsG g k)) ((k : Int), g k); omega
theorem wins_len (s t n least : Int) : (wins s t n least).length ≤ 96 := by
  unfold wins; split
  · exact rwinF_len least (fun j => heightF s t (96 * n + (j : Int))) 96
  · simp
theorem spv_own {B : Nat} {w : World} {E : TypeId} {v : Value} {l : List (Int × Int)} (h : w.ownsRow B E 2 v l.length (spanCells l)) (hl : l.length ≤ 96) : SpV w v l := by
  obtain ⟨ao, cap, e, hs⟩ := ownsRow_slv h (by rw [spanCells_len]; unfold maxLen; omega)
  exact ⟨ao, cap, e, hs⟩

theorem windows_no (s t nn least : Int) (w : World) (h : ¬ wOk s t nn) : Calls Try.prog 17 #[.int .i64 s, .int .i64 t, .int .i64 nn, .int .i64 least] w fun e w' => e = .returned (.tuple #[.slice none 0 0, .int .i64 1]) ∧ Below w.heap.size w w' := by
  by_cases he : stOk s t
  · have hn : ¬ nOk nn := fun hn => h ⟨he, hn⟩
    have He := hid (fun w => exists_yes s t w he)
    clear he h
    by_cases n0 : nn < 0
    · clear hn
      go_enter Try.func17, Try.ntmps17
      go_wp2_with (first | (go_at_call 28; refine (He.out _).mono ?_; rintro e w' ⟨rfl, rfl⟩) | (refine wpl_box rfl 3 _ rfl (.int .i64 least) rfl ?_; intro w1 gs hs0 hs1 hbs hgs))
      go_ret2
      exact ⟨rfl, grown_below hgs (Nat.le_refl _) (by simp)⟩
    · have n1 : 400 ≤ nn := by unfold nOk at hn; omega
      clear hn
      go_enter Try.func17, Try.ntmps17
      go_wp2_with (first | (go_at_call 28; refine (He.out _).mono ?_; rintro e w' ⟨rfl, rfl⟩) | (refine wpl_box rfl 3 _ rfl (.int .i64 least) rfl ?_; intro w1 gs hs0 hs1 hbs hgs))
      go_ret2
      exact ⟨rfl, grown_below hgs (Nat.le_refl _) (by simp)⟩
  · have He := hid (fun w => exists_no s t w he)
    clear he h
    go_enter Try.func17, Try.ntmps17
    go_wp2_with (first | (go_at_call 28; refine (He.out _).mono ?_; rintro e w' ⟨rfl, rfl⟩) | (refine wpl_box rfl 3 _ rfl (.int .i64 least) rfl ?_; intro w1 gs hs0 hs1 hbs hgs))
    go_ret2
    exact ⟨rfl, grown_below hgs (Nat.le_refl _) (by simp)⟩

theorem rwindows_no (s t nn least : Int) (w : World) (h : ¬ wOk s t nn) : Calls Try.prog 18 #[.int .i64 s, .int .i64 t, .int .i64 nn, .int .i64 least] w fun e w' => e = .returned (.tuple #[.slice none 0 0, .int .i64 1]) ∧ w = w' := by
  have H := hid h
  clear h
  by_cases c1 : s < 0
  · go_enter Try.func18, Try.ntmps18
    go_wp2
    go_ret2
    exact ⟨rfl, rfl⟩
  · by_cases c2 : 15 < s
    · go_enter Try.func18, Try.ntmps18
      go_wp2
      go_ret2
      exact ⟨rfl, rfl⟩
    · by_cases ht : 0 ≤ t ∧ t < 512
      · have HT := hid (fun w => rtile_yes t w ht.1 ht.2)
        by_cases c3 : nn < 0
        · clear ht
          go_enter Try.func18, Try.ntmps18
          go_wp2_with (first | (go_at_call 30; refine (HT.out _).mono ?_; rintro e w' ⟨rfl, rfl⟩))
          go_ret2
          exact ⟨rfl, rfl⟩
        · have c4 : 399 < nn := by
            have := H.out; unfold wOk stOk nOk at this; omega
          clear ht
          go_enter Try.func18, Try.ntmps18
          go_wp2_with (first | (go_at_call 30; refine (HT.out _).mono ?_; rintro e w' ⟨rfl, rfl⟩))
          go_ret2
          exact ⟨rfl, rfl⟩
      · have HT := hid (fun w => rtile_no t w ht)
        clear ht
        go_enter Try.func18, Try.ntmps18
        go_wp2_with (first | (go_at_call 30; refine (HT.out _).mono ?_; rintro e w' ⟨rfl, rfl⟩))
        go_ret2
        exact ⟨rfl, rfl⟩

theorem spv_nil (w : World) : SpV w (.slice none 0 0) [] := ⟨none, 0, rfl, by simp [spanCells, maxLen], by simp [spanCells]⟩
theorem windows_any (s t nn least : Int) (w : World) : Calls Try.prog 17 #[.int .i64 s, .int .i64 t, .int .i64 nn, .int .i64 least] w fun e w' => ∃ v, e = .returned (.tuple #[v, .int .i64 (winE s t nn)]) ∧ SpV w' v (wins s t nn least) ∧ Below w.heap.size w w' := by
  have hl := wins_len s t nn least
  unfold winE wins at *
  by_cases h : wOk s t nn
  · rw [if_pos h] at hl
    rw [if_pos h, if_pos h]
    refine (windows_yes s t nn least w h.1 h.2).mono ?_
    rintro e w' ⟨v, rfl, ho, hB⟩
    rw [win_eq] at ho
    exact ⟨v, rfl, spv_own ho hl, hB⟩
  · rw [if_neg h, if_neg h]
    refine (windows_no s t nn least w h).mono ?_
    rintro e w' ⟨rfl, hB⟩
    exact ⟨_, rfl, spv_nil _, hB⟩
theorem rwindows_any (s t nn least : Int) (w : World) : Calls Try.prog 18 #[.int .i64 s, .int .i64 t, .int .i64 nn, .int .i64 least] w fun e w' => ∃ v, e = .returned (.tuple #[v, .int .i64 (winE s t nn)]) ∧ SpV w' v (wins s t nn least) ∧ Below w.heap.size w w' := by
  have hl := wins_len s t nn least
  unfold winE wins at *
  by_cases h : wOk s t nn
  · rw [if_pos h] at hl
    rw [if_pos h, if_pos h]
    refine (rwindows_yes s t nn least w h.1 h.2).mono ?_
    rintro e w' ⟨v, rfl, ho, hB⟩
    exact ⟨v, rfl, spv_own ho hl, hB⟩
  · rw [if_neg h, if_neg h]
    refine (rwindows_no s t nn least w h).mono ?_
    rintro e w' ⟨rfl, rfl⟩
    exact ⟨_, rfl, spv_nil _, Below.refl _ _⟩

theorem SpV.get {w : World} {v : Value} {l : List (Int × Int)} (h : SpV w v l) : ∃ ao cap, v = .slice ao l.length cap ∧ ∀ i a, l[i]? = some a → ∃ b off, ao = some ⟨b, off, none⟩ ∧ w.cell? ⟨b, off + i * 2, none⟩ = some (.int .i64 a.1) ∧ w.cell? ⟨b, off + i * 2 + 1, none⟩ = some (.int .i64 a.2) := by
  obtain ⟨ao, cap, e, hs⟩ := h
  refine ⟨ao, cap, e, fun i a hi => ?_⟩
  have hg := spanCells_get l i a hi
  obtain ⟨b, off, e1, _, c1⟩ := hs.cell _ _ hg.1
  obtain ⟨b', off', e2, _, c2⟩ := hs.cell _ _ hg.2
  rw [e1] at e2
  obtain ⟨rfl, rfl⟩ : b = b' ∧ off = off' := by cases e2; exact ⟨rfl, rfl⟩
  exact ⟨b, off, e1, by rw [Nat.mul_comm i 2]; exact c1, by rw [Nat.mul_comm i 2, Nat.add_assoc]; exact c2⟩

def inB (l : List (Int × Int)) (j : Int) : Bool := l.any fun x => decide (x.1 ≤ j) && decide (j ≤ x.2)
theorem in_any (v : Value) (l : List (Int × Int)) (j : Int) (w : World) (h : SpV w v l) (hl : l.length ≤ 1000) : Calls Try.prog 22 #[v, .int .i64 j] w fun e w' => e = .returned (.bool (inB l j)) ∧ w = w' := by
  obtain ⟨ao, cap, rfl, hc⟩ := h.get
  obtain ⟨n, hn⟩ : ∃ n, l.length = n := ⟨_, rfl⟩
  have HN := hid hn
  rw [hn] at hl ⊢
  have HC := hid hc
  clear h hc hn
  go_enter Try.func22, Try.ntmps22
  go_wp2
  go_loopw [5] (fun s4 wr => wr = w ∧ ∃ k : Nat, s4 = .int .i64 k ∧ k ≤ n ∧ Hid (inB l j = inB (l.drop k) j)) (fun s4 _ => n - (intOf s4).toNat)
  case atStart => exact ⟨rfl, 0, rfl, by omega, rfl⟩
  case round =>
    obtain ⟨rfl, k, rfl, hk, hin⟩ := hrel
    by_cases hlt : k < n
    · have hI : (k : Int) < (n : Int) := by omega
      obtain ⟨⟨x, y⟩, hx⟩ : ∃ x, l[k]? = some x := ⟨_, List.getElem?_eq_getElem (by have := HN.out; omega)⟩
      obtain ⟨b, off, rfl, c1, c2⟩ := HC.out k _ hx
      dsimp only at c1 c2
      have hd : l.drop k = (x, y) :: l.drop (k + 1) := by
        rw [List.drop_eq_getElem_cons (by have := HN.out; omega)]
        congr 1
        rw [List.getElem?_eq_getElem (by have := HN.out; omega)] at hx
        exact Option.some.inj hx
      have hi2 : inB l j = ((decide (x ≤ j) && decide (j ≤ y)) || inB (l.drop (k + 1)) j) := by rw [hin.out, hd]; rfl
      have HI := hid hi2
      clear hi2 hd hx hin
      by_cases h1 : x ≤ j
      · by_cases h2 : j ≤ y
        · go_wp2
          go_ret
          rw [HI.out]
          exact ⟨ret_bool (by simp [h1, h2]), rfl⟩
        · go_wp2
          go_roundw
          case rel => exact ⟨(by first | trivial | rfl), k + 1, by go_num, by omega, hid (by rw [HI.out]; simp [h2])⟩
          case measure => simp [intOf] <;> omega
      · go_wp2
        go_roundw
        case rel => exact ⟨(by first | trivial | rfl), k + 1, by go_num, by omega, hid (by rw [HI.out]; simp [h1])⟩
        case measure => simp [intOf] <;> omega
    · obtain rfl : k = n := by omega
      go_wp2
      go_ret
      have hnil : l.drop k = [] := List.drop_eq_nil_of_le (by have := HN.out; omega)
      rw [hin.out, hnil]
      exact ⟨rfl, rfl⟩

theorem rspans_eq (v u : Value) (l : List (Int × Int)) (w : World) (h : SpV w v l) (h' : SpV w u l) (hl : l.length ≤ 1000) : Calls Try.prog 19 #[v, u] w fun e w' => e = .returned (.bool true) ∧ Below w.heap.size w w' := by
  obtain ⟨ao, cap, rfl, hc⟩ := h.get
  obtain ⟨bo, cbp, rfl, hd⟩ := h'.get
  obtain ⟨n, hn⟩ : ∃ n, l.length = n := ⟨_, rfl⟩
  have HN := hid hn
  rw [hn] at hl ⊢
  have HC := hid hc
  have HD := hid hd
  clear h hc hn h' hd
  go_enter Try.func19, Try.ntmps19
  go_wp2
  go_loopw [5] (fun s4 wr => Below w.heap.size w wr ∧ ∃ k : Nat, s4 = .int .i64 k ∧ k ≤ n) (fun s4 _ => n - (intOf s4).toNat)
  case atStart => exact ⟨Below.refl _ _, 0, rfl, by omega⟩
  case round =>
    obtain ⟨hB, k, rfl, hk⟩ := hrel
    by_cases hlt : k < n
    · have hI : (k : Int) < (n : Int) := by omega
      obtain ⟨⟨x, y⟩, hx⟩ : ∃ x, l[k]? = some x := ⟨_, List.getElem?_eq_getElem (by have := HN.out; omega)⟩
      obtain ⟨b, off, rfl, c1, c2⟩ := HC.out k _ hx
      obtain ⟨b', off', rfl, d1, d2⟩ := HD.out k _ hx
      have c1 := (hB.cell (World.block_lt_of_cell? w _ c1)).trans c1
      have c2 := (hB.cell (World.block_lt_of_cell? w _ c2)).trans c2
      have d1 := (hB.cell (World.block_lt_of_cell? w _ d1)).trans d1
      have d2 := (hB.cell (World.block_lt_of_cell? w _ d2)).trans d2
      dsimp only at c1 c2 d1 d2
      clear hx
      go_wp2
      refine wp_region_quiet_all (by kernel_rfl) (by kernel_rfl) ?_
      repeat (go_big_quiet_step (fail))
      refine wpQuiet_end ?_
      go_wp2
      go_roundw
      case rel => exact ⟨⟨hB.os, hB.tape, hB.output, hB.size, hB.block⟩, k + 1, by go_num, by omega⟩
      case measure => simp [intOf] <;> omega
    · obtain rfl : k = n := by omega
      go_wp2
      go_ret
      exact ⟨rfl, hB⟩
end Go.Proofs.Ytgelhndjdngdnaa
