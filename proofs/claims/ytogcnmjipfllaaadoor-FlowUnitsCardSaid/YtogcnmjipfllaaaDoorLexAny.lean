/- strings.IndexAny for a quote and a line feed, at every string -/
import Derived.Test.YtogcnmjipfllaaaDoorLexNext
import Derived.Lib.DecodeN
import Derived.Lib.OthersKept
import Derived.Laws.RangeAny
namespace Go.Proofs.YtogcnmjipfllaaaDoor
open Go.RowKit Go.Shelf Go.Lib

theorem Tryd.hv_set : ∀ w, (zeroValue 118).run Tryd.prog w = .ok (.agg (Array.replicate 256 (.bool false))) w := (zero_of_info (P := Tryd.prog) (n := 256) (by kernel_rfl)).1
def qlS : ByteArray := ⟨#[34, 10]⟩

theorem get_at (s : ByteArray) (i : Nat) (h : i < s.size) : s.get! i = s[i]'h := by simp [ByteArray.get!, getElem!_pos, h]; rfl
/-- what a place of a string opens -/
theorem decode_spec (s : ByteArray) (i : Nat) (h : i < s.size) : 128 ≤ (s[i]'h).toNat →
    128 ≤ (Utf8.decode s i).1 ∧ (Utf8.decode s i).1 ≤ 1114111 ∧ ((Utf8.decode s i).1 < 55296 ∨ 57344 ≤ (Utf8.decode s i).1) ∧ 1 ≤ (Utf8.decode s i).2 ∧ i + (Utf8.decode s i).2 ≤ s.size ∧
      ∀ j, j < (Utf8.decode s i).2 → 128 ≤ (s.get! (i + j)).toNat := by
  intro hb
  rw [← get_at s i h] at hb
  rw [decode_at]
  have h1 := (s.get! (i + 1)).toNat_lt
  have h2 := (s.get! (i + 2)).toNat_lt
  have h3 := (s.get! (i + 3)).toNat_lt
  have h0 := (s.get! i).toNat_lt
  have hj : ∀ (n : Nat), n ≤ 4 → (1 < n → 128 ≤ (s.get! (i + 1)).toNat) → (2 < n → 128 ≤ (s.get! (i + 2)).toNat) → (3 < n → 128 ≤ (s.get! (i + 3)).toNat) → ∀ j, j < n → 128 ≤ (s.get! (i + j)).toNat := by
    intro n hn a1 a2 a3 j hjn
    rcases (show j = 0 ∨ j = 1 ∨ j = 2 ∨ j = 3 by omega) with rfl | rfl | rfl | rfl
    · exact hb
    · exact a1 (by omega)
    · exact a2 (by omega)
    · exact a3 (by omega)
  unfold decodeN
  generalize (s.get! (i + 1)).toNat = b1 at *
  generalize (s.get! (i + 2)).toNat = b2 at *
  generalize (s.get! (i + 3)).toNat = b3 at *
  generalize (s.get! i).toNat = b0 at *
  repeat' split
  all_goals first
    | (exfalso; omega)
    | (refine ⟨by dsimp only; omega, by dsimp only; omega, by dsimp only; omega, by dsimp only; omega, by dsimp only; omega, hj _ (by omega) (by omega) (by omega) (by omega)⟩)

set_option maxHeartbeats 2000000 in
set_option maxRecDepth 1000000 in
/-- IndexRune of the rune for errors, in a string of ASCII bytes -/
theorem rune_err (s : ByteArray) (w : World) (hs : s.size ≤ 1000) (hascii : ∀ (j : Nat) b, s.data.toList[j]? = some b → b.toNat < 128) :
    Calls Tryd.prog 64 #[.string s, .int .i32 65533] w fun e w' => e = .returned (.int .i64 (-1)) ∧ Below w.heap.size w w' := by
  have HA := hid hascii
  clear hascii
  go_enter Tryd.func64, Tryd.ntmps64
  go_wp2_with fail
  go_loopg [5, 6] s.size (fun g _ _ wx => ∃ i : Nat, i + g = s.size ∧ wx = w.iter s i)
  case atStart => exact ⟨0, by omega, rfl⟩
  case round =>
    obtain ⟨i, hig, rfl⟩ := hrel
    cases gk with
    | zero =>
      obtain rfl : i = s.size := by omega
      have hnx := fun ty => run_next_end (P := Tryd.prog) w s s.size ty (by omega)
      go_wp2
      go_ret
      exact ⟨rfl, (Below.refl _ _).alloc (Nat.le_refl _) _⟩
    | succ g =>
      have hi : i < s.size := by omega
      obtain ⟨x, hx⟩ : ∃ x : UInt8, s[i]'hi = x := ⟨_, rfl⟩
      have hx128 : x.toNat < 128 := HA.out i x (by rw [← hx]; exact Lib.data_getElem? s i hi)
      have hnx := fun ty => run_next_ascii (P := Tryd.prog) w s i ty hi (by rw [hx]; exact hx128)
      rw [hx] at hnx
      have hne : ((x.toNat : Int) == 65533) = false := by rw [beq_eq_false_iff_ne]; omega
      clear hx
      go_wp2
      go_roundg g
      case measure => omega
      case rel => exact ⟨i + 1, by omega, rfl⟩

set_option maxHeartbeats 2000000 in
set_option maxRecDepth 1000000 in
theorem rune_valid (r : Int) (w : World) (h : 128 ≤ r) (hr : r ≤ 1114111) (hv : r < 55296 ∨ 57344 ≤ r) (hne : (r == 65533) = false) (hs2 : 2 ≤ (Utf8.encode r).size) (hs4 : (Utf8.encode r).size ≤ 4) (hb : ∀ x, (Utf8.encode r).data.toList[1]? = some x → 128 ≤ x.toNat) :
    Calls Tryd.prog 64 #[.string ⟨#[34, 10]⟩, .int .i32 r] w fun e w' => e = .returned (.int .i64 (-1)) ∧ Below w.heap.size w w' := by
  have hvr : Lib.validRune r = true := by unfold Lib.validRune; rw [decide_eq_true_iff]; omega
  have HV := hid (fun w => hvr ▸ Tryd.utf8_ValidRune r w)
  have HB := hid hb
  clear hvr hb hv
  go_enter Tryd.func64, Tryd.ntmps64
  go_wp2_with fail
  refine (HV.out w).mono ?_
  rintro e w' ⟨rfl, rfl⟩
  go_wp2_with fail
  go_step3
  go_wp2_with fail
  go_loopw [9] (fun s9 wr => s9 = .int .i64 (((Utf8.encode r).size : Int) - 1) ∧ wr = w') (fun _ _ => 0)
  case atStart => exact ⟨rfl, rfl⟩
  case round =>
    obtain ⟨rfl, rfl⟩ := hrel
    by_cases h2 : (Utf8.encode r).size = 2
    · have h1 : 1 < (Utf8.encode r).size := by omega
      obtain ⟨x, hx⟩ : ∃ x : UInt8, (Utf8.encode r)[1]'h1 = x := ⟨_, rfl⟩
      have hx1 := HB.out x (by rw [← hx]; exact Lib.data_getElem? (Utf8.encode r) 1 h1)
      have h2' : ((Utf8.encode r).size : Int) - 1 = 1 := by omega
      rw [h2']
      have hE2 : ((((({ data := #[34, 10] } : ByteArray)[1]'(by decide)).toNat : Nat) : Int) != (x.toNat : Int)) = true := by
        have e : (((({ data := #[34, 10] } : ByteArray)[1]'(by decide)).toNat : Nat) : Int) = 10 := by decide
        rw [e, bne_iff_ne]; omega
      clear h2 h2' hs2 hs4 HB
      go_wp2_with fail
      go_step3
      go_wp2_with fail
      refine wp_region_quiet_all (by kernel_rfl) (by kernel_rfl) ?_; (repeat (go_big_quiet_step (fail)))
      refine wpQuiet_end ?_
      go_wp2_with fail
      refine wp_region_quiet_all (by kernel_rfl) (by kernel_rfl) ?_; (repeat (go_big_quiet_step (fail)))
      go_big_quiet_want; go_big_quiet_op
      refine ⟨.int .i64 (-1), Tryd.strings_IndexByte _ _ _, ?_⟩
      go_big_quiet_on; (repeat (go_big_quiet_step (fail)))
      refine wpQuiet_end ?_
      go_wp2_with fail
      rw [Exit.noGoto_ret]
      simp (config := { zetaDelta := true }) only [Exit.inBlock, Exit.then, Exit.noGoto_ret]
      go_ret
      exact ⟨rfl, ((Below.refl _ wr).drew).drew⟩
    · have hI : ¬ ((Utf8.encode r).size : Int) - 1 < 2 := by omega
      go_wp2_with fail
      (try go_step3)
      go_wp2_with fail
      go_ret
      exact ⟨rfl, Below.refl _ _⟩

theorem enc_bytes (r : Int) (h : 128 ≤ r) (hr : r ≤ 1114111) (hv : r < 55296 ∨ 57344 ≤ r) : 2 ≤ (Utf8.encode r).size ∧ (Utf8.encode r).size ≤ 4 ∧ ∀ x, (Utf8.encode r).data.toList[1]? = some x → 128 ≤ x.toNat := by
  have hval : Utf8.valid r = true := by unfold Utf8.valid; simp; omega
  have hb : ∀ n : Nat, 128 ≤ n → n < 192 → 128 ≤ (UInt8.ofNat n).toNat := by
    intro n h1 h2
    rw [UInt8.toNat_ofNat_of_lt' (by simp [UInt8.size]; omega)]; exact h1
  unfold Utf8.encode
  simp only [hval, if_true]
  repeat' split
  · omega
  · exact ⟨by show 2 ≤ 2; omega, by show 2 ≤ 4; omega, fun x hx => by (have e := Option.some.inj hx); subst e; exact hb _ (by omega) (by omega)⟩
  · exact ⟨by show 2 ≤ 3; omega, by show 3 ≤ 4; omega, fun x hx => by (have e := Option.some.inj hx); subst e; exact hb _ (by omega) (by omega)⟩
  · exact ⟨by show 2 ≤ 4; omega, by show 4 ≤ 4; omega, fun x hx => by (have e := Option.some.inj hx); subst e; exact hb _ (by omega) (by omega)⟩
theorem rune_none (r : Int) (w : World) (h : 128 ≤ r) (hr : r ≤ 1114111) (hv : r < 55296 ∨ 57344 ≤ r) :
    Calls Tryd.prog 64 #[.string ⟨#[34, 10]⟩, .int .i32 r] w fun e w' => e = .returned (.int .i64 (-1)) ∧ Below w.heap.size w w' := by
  by_cases he : r = 65533
  · subst he
    refine rune_err ⟨#[34, 10]⟩ w (by decide) ?_
    intro j b hj
    rcases j with _ | _ | j
    · simp at hj; subst hj; decide
    · simp at hj; subst hj; decide
    · simp at hj
  · obtain ⟨e1, e2, e3⟩ := enc_bytes r h hr hv
    exact rune_valid r w h hr hv (by rw [beq_eq_false_iff_ne]; exact he) e1 e2 e3

theorem noAny_skip {l : List UInt8} {i n : Nat} (h : NoAny l [34, 10] i) (hs : ∀ j, j < n → ∀ b, l[i + j]? = some b → 128 ≤ b.toNat) : NoAny l [34, 10] (i + n) := by
  intro j b hj hb
  by_cases hji : j < i
  · exact h j b hji hb
  · have := hs (j - i) (by omega) b (by rw [show i + (j - i) = j by omega]; exact hb)
    have h1 : b ≠ 34 := by rintro rfl; exact absurd this (by decide)
    have h2 : b ≠ 10 := by rintro rfl; exact absurd this (by decide)
    simp [h1, h2]

set_option maxHeartbeats 4000000 in
set_option maxRecDepth 1000000 in
theorem any_short (s : ByteArray) (w : World) (h8 : s.size ≤ 8) :
    Calls Tryd.prog 52 #[.string s, .string ⟨#[34, 10]⟩] w fun e w' => e = .returned (.int .i64 (Lib.indexAny s.data.toList [34, 10])) ∧ Below w.heap.size w w' := by
  have h8z : decide ((8 : Int) < (s.size : Int)) = false := decide_eq_false (by omega)
  have HU := hid (fun w => h8z ▸ Tryd.strings_shouldUseASCIISet (s.size : Int) w)
  clear h8z
  go_enter Tryd.func52, Tryd.ntmps52
  go_wp2_with fail
  refine (HU.out w).mono ?_
  rintro e w' ⟨rfl, rfl⟩
  go_wp2_with fail
  go_loopg [9, 10] s.size (fun g _ _ wx => ∃ i : Nat, i + g = s.size ∧ wx.heap[w'.heap.size]? = some (.stringIter s i) ∧ Below w'.heap.size w' wx ∧ Lib.NoAny s.data.toList [34, 10] i)
  case atStart => exact ⟨0, by omega, by exact World.iter_heap _ _ _, by exact (Below.refl _ _).alloc (Nat.le_refl _) _, Lib.NoAny.zero _ _⟩
  case round =>
    obtain ⟨wx, hwx⟩ : ∃ wx : World, wx = wr := ⟨_, rfl⟩
    subst hwx
    obtain ⟨i, hig, hit, hB, hno⟩ := hrel
    have HN := hid hno
    clear hno
    cases gk with
    | zero =>
      obtain rfl : i = s.size := by omega
      have hnx := fun ty => run_next_end_at (P := Tryd.prog) wx w'.heap.size s s.size ty hit (by omega)
      go_wp2
      go_ret
      refine ⟨?_, hB⟩
      rw [Lib.indexAny_none (by rw [← Lib.size_eq]; exact HN.out)]; rfl
    | succ g =>
      have hi : i < s.size := by omega
      obtain ⟨x, hx⟩ : ∃ x : UInt8, s[i]'hi = x := ⟨_, rfl⟩
      have hxl : s.data.toList[i]? = some x := by rw [← hx]; exact Lib.data_getElem? s i hi
      have hlt := (Array.getElem?_eq_some_iff.1 hit).1
      by_cases hx128 : x.toNat < 128
      · have hnx := fun ty => run_next_ascii_at (P := Tryd.prog) wx w'.heap.size s i ty hit hi (by rw [hx]; exact hx128)
        rw [hx] at hnx
        have Hx := hid hxl
        clear hxl hx
        have hcon := Lib.contains_iff_indexByte [34, 10] x
        have hback : ((x.toNat : Int)).toNat.toUInt8 = x := by simp
        have HR := hid (fun w => hback ▸ Tryd.strings_IndexRune_ascii ⟨#[34, 10]⟩ (x.toNat : Int) w (by omega) (by omega))
        have hBi : Below w'.heap.size w' (wx.iterAt w'.heap.size s (i + 1)) := Lib.below_iterAt hB (Nat.le_refl _) s (i + 1)
        have hiti : (wx.iterAt w'.heap.size s (i + 1)).heap[w'.heap.size]? = some (.stringIter s (i + 1)) := Lib.iterAt_heap wx w'.heap.size s i (i + 1) hit
        clear hback
        cases hin : ([34, 10] : List UInt8).contains x
        · rw [hin] at hcon
          have hlt : ¬ ((0 : Int) ≤ Lib.indexByte [34, 10] x) := of_decide_eq_false hcon.symm
          have HI := hid hin
          clear hcon hin
          go_wp2_with fail
          refine (HR.out _).mono ?_
          rintro e w2 ⟨rfl, rfl⟩
          go_wp2_with fail
          go_roundg g
          case measure => omega
          case rel => exact ⟨i + 1, by omega, hiti, hBi, HN.out.succ Hx.out HI.out⟩
        · rw [hin] at hcon
          have hge : (0 : Int) ≤ Lib.indexByte [34, 10] x := of_decide_eq_true hcon.symm
          have HI := hid hin
          clear hcon hin
          go_wp2_with fail
          refine (HR.out _).mono ?_
          rintro e w2 ⟨rfl, rfl⟩
          go_wp2_with fail
          go_ret
          refine ⟨?_, hBi⟩
          rw [Lib.indexAny_hit HN.out Hx.out HI.out]; rfl
      · obtain ⟨d1, d2, d3, d4, d5, d6⟩ := decode_spec s i hi (by rw [hx]; omega)
        have hnx := fun ty => run_next_any_at (P := Tryd.prog) wx w'.heap.size s i ty hit hi
        obtain ⟨r, hr⟩ : ∃ r, (Utf8.decode s i).1 = r := ⟨_, rfl⟩
        obtain ⟨n, hn⟩ : ∃ n, (Utf8.decode s i).2 = n := ⟨_, rfl⟩
        rw [hr, hn] at hnx
        rw [hr] at d1 d2 d3
        rw [hn] at d4 d5 d6
        have hno2 := noAny_skip (n := n) HN.out (fun j hj b hb => by
          have := d6 j hj
          have hb' := (List.getElem?_eq_some_iff.1 hb)
          rw [get_at s (i + j) (by omega)] at this
          have e := Lib.data_getElem? s (i + j) (by omega)
          rw [hb] at e
          rw [Option.some.inj e]; exact this)
        have HN2 := hid hno2
        have HR := hid (fun w => rune_none (r : Int) w (by omega) (by omega) (by omega))
        have hBi : Below w'.heap.size w' (wx.iterAt w'.heap.size s (i + n)) := Lib.below_iterAt hB (Nat.le_refl _) s (i + n)
        have hiti : (wx.iterAt w'.heap.size s (i + n)).heap[w'.heap.size]? = some (.stringIter s (i + n)) := Lib.iterAt_heap wx w'.heap.size s i (i + n) hit
        have hsz := Lib.iterAt_size wx w'.heap.size s (i + n)
        clear hr hn d6 hno2 hx hxl
        go_wp2_with fail
        refine (HR.out _).mono ?_
        rintro e w2 ⟨rfl, hB2⟩
        go_wp2_with fail
        go_roundg (s.size - (i + n))
        case measure => omega
        case rel => exact ⟨i + n, by omega, (hB2.block w'.heap.size (by omega)).trans hiti, hBi.trans (hB2.mono (by omega)), HN2.out⟩
theorem any_ql (s : ByteArray) (w : World) (hs : s.size ≤ 1000000) :
    Calls Tryd.prog 52 #[.string s, .string ⟨#[34, 10]⟩] w fun e w' => e = .returned (.int .i64 (Lib.indexAny s.data.toList [34, 10])) ∧ Below w.heap.size w w' := by
  by_cases h8 : s.size ≤ 8
  · exact any_short s w h8
  · refine (Tryd.strings_IndexAny_long Tryd.hv_set s ⟨#[34, 10]⟩ w (by decide) (by omega) (by omega) (by decide) ?_).mono fun e w' ⟨h1, h2⟩ => ⟨h1, ?_⟩
    · intro j b hj
      rcases j with _ | _ | j
      · simp at hj; subst hj; decide
      · simp at hj; subst hj; decide
      · simp at hj
    · rw [h2]; exact ((Below.refl _ _).alloc (Nat.le_refl _) _).alloc (by simp) _
end Go.Proofs.YtogcnmjipfllaaaDoor
