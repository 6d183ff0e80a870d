/- airmass: the statement Windows -/
import Derived.Test.YtgelhndjdngdnaaAirHead
namespace Go.Proofs.Ytgelhndjdngdnaa
open Go.RowKit


theorem SpV.at {w wr : World} {ao : Option Addr} {n cap : Nat} {l : List (Int × Int)} (h : SpV w (.slice ao n cap) l) (hB : Below w.heap.size w wr) (i : Nat) (a : Int × Int) (hi : l[i]? = some a) :
    ∃ b off, ao = some ⟨b, off, none⟩ ∧ wr.cell? ⟨b, off + i * 2, none⟩ = some (.int .i64 a.1) ∧ wr.cell? ⟨b, off + i * 2 + 1, none⟩ = some (.int .i64 a.2) := by
  obtain ⟨ao', cap', e, hc⟩ := (h.below hB).get
  cases e
  exact hc i a hi
theorem SpV.form {w : World} {v : Value} {l : List (Int × Int)} (h : SpV w v l) : ∃ ao cap, v = .slice ao l.length cap := by
  obtain ⟨ao, cap, e, _⟩ := h; exact ⟨ao, cap, e⟩
theorem below_drew {a b : World} (h : Below a.heap.size a b) : Below a.heap.size a b.drew := ⟨h.os, h.tape, h.output, h.size, h.block⟩

theorem WinOk.next {P : Int → Prop} {k : Int} {l : List (Int × Int)} (h : WinOk P k l) (i j : Nat) (a b : Int × Int) (hi : l[i]? = some a) (hj : l[j]? = some b) (hij : i < j) : a.2 + 1 < b.1 := by
  obtain ⟨h1, rfl⟩ := List.getElem?_eq_some_iff.1 hi
  obtain ⟨h2, rfl⟩ := List.getElem?_eq_some_iff.1 hj
  exact List.pairwise_iff_getElem.1 h.ord i j h1 h2 hij
theorem inB_iff (l : List (Int × Int)) (j : Int) : inB l j = true ↔ ∃ x ∈ l, x.1 ≤ j ∧ j ≤ x.2 := by
  simp [inB]
theorem inB_val {P : Int → Prop} {k : Int} {l : List (Int × Int)} (h : WinOk P k l) (j : Int) (h0 : 0 ≤ j) (h1 : j < k) : (P j → inB l j = true) ∧ (¬ P j → inB l j = false) := by
  have := h.mem j h0 h1
  rw [← inB_iff] at this
  constructor
  · exact this.2
  · intro hn
    cases e : inB l j
    · rfl
    · exact absurd (this.1 e) hn

/-- between two rounds of the inner loop -/
def withinB (l : List (Int × Int)) (x : Int × Int) (j : Nat) : Bool := (l.take j).any fun y => decide (y.1 ≤ x.1) && decide (x.2 ≤ y.2)
theorem withinB_succ (l : List (Int × Int)) (x y : Int × Int) (j : Nat) (h : l[j]? = some y) : withinB l x (j + 1) = (withinB l x j || (decide (y.1 ≤ x.1) && decide (x.2 ≤ y.2))) := by
  unfold withinB
  rw [List.take_add_one, List.any_append, h]
  simp


set_option maxHeartbeats 4000000 in
set_option maxRecDepth 100000 in
theorem wins_walk_no (s t n o u mn mx : Int) (w : World) (h : ¬ wOk s t n) (hm : (o < u ∧ mn = o ∧ mx = u) ∨ (u < o ∧ mn = u ∧ mx = o) ∨ (o = u ∧ mn = o ∧ mx = o)) : Calls Try.prog 8 #[.int .i64 s, .int .i64 t, .int .i64 n, .int .i64 o, .int .i64 u] w fun e w' => e = .returned (.bool true) ∧ Below w.heap.size w w' := by
  have k1 := fun w => windows_any s t n mn w
  have k2 := fun w => windows_any s t n mx w
  rw [show winE s t n = 1 from if_neg h] at k1 k2
  rw [show wins s t n mn = [] from if_neg h] at k1
  rw [show wins s t n mx = [] from if_neg h] at k2
  have W1 := hid k1
  have W2 := hid k2
  clear k1 k2 h
  rcases hm with ⟨h, rfl, rfl⟩ | ⟨h, rfl, rfl⟩ | ⟨rfl, rfl, rfl⟩
  · have m1 : mn ≤ mx := by omega
    have m2 : ¬ mx ≤ mn := by omega
    go_enter Try.func8, Try.ntmps8  ;go_wp2_with fail  ;refine (head_any _).mono ?_  ;rintro e w1 ⟨rfl, hB1⟩  ;go_wp2_with fail  ;refine (W1.out _).mono ?_  ;rintro e w2 ⟨x, rfl, hx, hB2⟩  ;go_wp2_with fail  ;refine (W2.out _).mono ?_  ;rintro e w3 ⟨y, rfl, hy, hB3⟩  ;have hx2 := hx.below hB3  ;clear hx  ;have hBB := bthen hB1 (bthen hB2 hB3)  ;obtain ⟨ax, cx, rfl⟩ := hx2.form  ;obtain ⟨ay, cy, rfl⟩ := hy.form
    go_wp2_with fail
    go_ret
    exact ⟨ret_bool (by first | rfl | (simp [*])), hBB⟩
  · have m1 : mn ≤ mx := by omega
    have m2 : ¬ mx ≤ mn := by omega
    go_enter Try.func8, Try.ntmps8  ;go_wp2_with fail  ;refine (head_any _).mono ?_  ;rintro e w1 ⟨rfl, hB1⟩  ;go_wp2_with fail  ;refine (W1.out _).mono ?_  ;rintro e w2 ⟨x, rfl, hx, hB2⟩  ;go_wp2_with fail  ;refine (W2.out _).mono ?_  ;rintro e w3 ⟨y, rfl, hy, hB3⟩  ;have hx2 := hx.below hB3  ;clear hx  ;have hBB := bthen hB1 (bthen hB2 hB3)  ;obtain ⟨ax, cx, rfl⟩ := hx2.form  ;obtain ⟨ay, cy, rfl⟩ := hy.form
    go_wp2_with fail
    go_ret
    exact ⟨ret_bool (by first | rfl | (simp [*])), hBB⟩
  · go_enter Try.func8, Try.ntmps8  ;go_wp2_with fail  ;refine (head_any _).mono ?_  ;rintro e w1 ⟨rfl, hB1⟩  ;go_wp2_with fail  ;refine (W1.out _).mono ?_  ;rintro e w2 ⟨x, rfl, hx, hB2⟩  ;go_wp2_with fail  ;refine (W2.out _).mono ?_  ;rintro e w3 ⟨y, rfl, hy, hB3⟩  ;have hx2 := hx.below hB3  ;clear hx  ;have hBB := bthen hB1 (bthen hB2 hB3)  ;obtain ⟨ax, cx, rfl⟩ := hx2.form  ;obtain ⟨ay, cy, rfl⟩ := hy.form
    go_wp2_with fail
    go_ret
    exact ⟨ret_bool (by first | rfl | (simp [*])), hBB⟩

set_option maxHeartbeats 4000000 in
set_option maxRecDepth 100000 in
theorem wins_walk_lt (s t n mn mx : Int) (w : World) (h : wOk s t n) (hm : mn < mx) : Calls Try.prog 8 #[.int .i64 s, .int .i64 t, .int .i64 n, .int .i64 mn, .int .i64 mx] w fun e w' => e = .returned (.bool true) ∧ Below w.heap.size w w' := by
  have k1 := fun w => windows_any s t n mn w
  have k2 := fun w => windows_any s t n mx w
  rw [show winE s t n = 0 from if_pos h] at k1 k2
  have hok1 : WinOk (fun j => mn ≤ heightF s t (96 * n + (j.toNat : Int))) (96 : Nat) (wins s t n mn) := by
    unfold wins; rw [if_pos h]; exact rwin_ok mn (fun j => heightF s t (96 * n + (j : Int))) 96
  have hok2 : WinOk (fun j => mx ≤ heightF s t (96 * n + (j.toNat : Int))) (96 : Nat) (wins s t n mx) := by
    unfold wins; rw [if_pos h]; exact rwin_ok mx (fun j => heightF s t (96 * n + (j : Int))) 96
  have hl1 := wins_len s t n mn
  have hl2 := wins_len s t n mx
  have HH := hid (fun (k : Nat) (hk : k < 96) (w : World) => height_yes s t (96 * n + (k : Int)) w h.1 (by have := h.2; unfold nOk at this; omega) (by have := h.2; unfold nOk at this; omega))
  generalize wins s t n mn = L at *
  generalize wins s t n mx = K at *
  have HN := hid h.2
  have OK1 := hid hok1
  have OK2 := hid hok2
  have WI := hid (fun x hx => win_within hok2 hok1 (fun j _ _ (hj : mx ≤ _) => show mn ≤ _ by omega) x hx)
  have HN1 := h.2.1
  have HN2 := h.2.2
  have W1 := hid k1
  have W2 := hid k2
  clear k1 k2 h hok1 hok2
  have m1 : mn ≤ mx := by omega
  have m2 : ¬ mx ≤ mn := by omega
  go_enter Try.func8, Try.ntmps8  ;go_wp2_with fail  ;refine (head_any _).mono ?_  ;rintro e w1 ⟨rfl, hB1⟩  ;go_wp2_with fail  ;refine (W1.out _).mono ?_  ;rintro e w2 ⟨x, rfl, hx, hB2⟩  ;go_wp2_with fail  ;refine (W2.out _).mono ?_  ;rintro e w3 ⟨y, rfl, hy, hB3⟩  ;have hx2 := hx.below hB3  ;clear hx  ;have hBB := bthen hB1 (bthen hB2 hB3)  ;obtain ⟨ax, cx, rfl⟩ := hx2.form  ;obtain ⟨ay, cy, rfl⟩ := hy.form
  obtain ⟨n1, hn1⟩ : ∃ n1, L.length = n1 := ⟨_, rfl⟩
  obtain ⟨n2, hn2⟩ : ∃ n2, K.length = n2 := ⟨_, rfl⟩
  rw [hn1] at hl1 hx2 ⊢
  rw [hn2] at hl2 hy ⊢
  have NL := hid hn1
  have NK := hid hn2
  have HX := hid hx2
  have HY := hid hy
  clear hn1 hn2 hx2 hy
  go_wp2_with fail
  go_loopw [16] (fun s16 wr => Below w3.heap.size w3 wr ∧ ∃ k : Nat, s16 = .int .i64 k ∧ k ≤ 96) (fun s16 _ => 96 - (intOf s16).toNat)
  case atStart => exact ⟨Below.refl _ _, 0, rfl, by omega⟩
  case round =>
    obtain ⟨hB, k, rfl, hk⟩ := hrel
    by_cases hlt : k < 96
    · have hI : (k : Int) < 96 := by omega
      have H1 := hid (HH.out k hlt)
      obtain ⟨p1, q1⟩ := inB_val OK1.out (k : Int) (by omega) (by omega)
      obtain ⟨p2, q2⟩ := inB_val OK2.out (k : Int) (by omega) (by omega)
      simp only [Int.toNat_natCast] at p1 q1 p2 q2
      generalize heightF s t (96 * n + (k : Int)) = h at *
      have I1 := hid (fun w (hw : Below w3.heap.size w3 w) => in_any _ L (k : Int) w (HX.out.below hw) (by have := NL.out; omega))
      have I2 := hid (fun w (hw : Below w3.heap.size w3 w) => in_any _ K (k : Int) w (HY.out.below hw) (by have := NK.out; omega))
      by_cases c1 : mx ≤ h
      · rw [p1 (by omega)] at I1
        rw [p2 c1] at I2
        have c2 : mn ≤ h := by omega
        clear p1 q1 p2 q2
        go_wp2_with (go_at_call 13; refine (H1.out _).mono ?_; rintro e w' ⟨rfl, rfl⟩)
        refine (I1.out _ hB).mono ?_
        rintro e w' ⟨rfl, rfl⟩
        go_wp2_with fail
        refine (I2.out _ hB).mono ?_
        rintro e w' ⟨rfl, rfl⟩
        go_wp2_with fail
        refine (I1.out _ hB).mono ?_
        rintro e w' ⟨rfl, rfl⟩
        go_wp2_with fail
        go_roundw
        case rel => exact ⟨hB, k + 1, by go_num, by omega⟩
        case measure => simp [intOf] <;> omega
      · rw [q2 c1] at I2
        by_cases c2 : mn ≤ h
        · rw [p1 c2] at I1
          clear p1 q1 p2 q2
          go_wp2_with (go_at_call 13; refine (H1.out _).mono ?_; rintro e w' ⟨rfl, rfl⟩)
          refine (I1.out _ hB).mono ?_
          rintro e w' ⟨rfl, rfl⟩
          go_wp2_with fail
          refine (I2.out _ hB).mono ?_
          rintro e w' ⟨rfl, rfl⟩
          go_wp2_with fail
          go_roundw
          case rel => exact ⟨hB, k + 1, by go_num, by omega⟩
          case measure => simp [intOf] <;> omega
        · rw [q1 c2] at I1
          clear p1 q1 p2 q2
          go_wp2_with (go_at_call 13; refine (H1.out _).mono ?_; rintro e w' ⟨rfl, rfl⟩)
          refine (I1.out _ hB).mono ?_
          rintro e w' ⟨rfl, rfl⟩
          go_wp2_with fail
          refine (I2.out _ hB).mono ?_
          rintro e w' ⟨rfl, rfl⟩
          go_wp2_with fail
          go_roundw
          case rel => exact ⟨hB, k + 1, by go_num, by omega⟩
          case measure => simp [intOf] <;> omega
    · have hI : ¬ (k : Int) < 96 := by omega
      go_wp2_with fail
      go_loopw [19] (fun s16 wr => Below w3.heap.size w3 wr ∧ ∃ k : Nat, s16 = .int .i64 k ∧ k ≤ n1) (fun s16 _ => n1 - (intOf s16).toNat)
      case atStart => exact ⟨hB, 0, rfl, by omega⟩
      case round =>
        clear hB
        obtain ⟨hB, k, rfl, hk⟩ := hrel
        by_cases hlt : k < n1
        · have hI : (k : Int) < (n1 : Int) := by omega
          obtain ⟨⟨x, y⟩, hx⟩ : ∃ x, L[k]? = some x := ⟨_, List.getElem?_eq_getElem (by have := NL.out; omega)⟩
          have hbd := OK1.out.bd (x, y) (List.mem_of_getElem? hx)
          dsimp only at hbd
          obtain ⟨b1, b2, b3⟩ := hbd
          obtain ⟨b, off, rfl, d1, d2⟩ := HX.out.at hB k _ hx
          dsimp only at d1 d2
          have c1 : ¬ x < 0 := by omega
          have c2 : ¬ y < x := by omega
          have c3 : ¬ 95 < y := by omega
          by_cases hk0 : 0 < k
          · have hk0' : 0 < (k : Int) := by omega
            obtain ⟨⟨x', y'⟩, hx'⟩ : ∃ x, L[k - 1]? = some x := ⟨_, List.getElem?_eq_getElem (by have := NL.out; omega)⟩
            have hord : y' + 1 < x := OK1.out.next (k - 1) k _ _ hx' hx (by omega)
            obtain ⟨b', off', e, d3, d4⟩ := HX.out.at hB (k - 1) _ hx'
            obtain ⟨rfl, rfl⟩ : b = b' ∧ off = off' := by cases e; exact ⟨rfl, rfl⟩
            dsimp only at d3 d4
            have c4 : ¬ x ≤ y' + 1 := by omega
            have hbd' := OK1.out.bd (x', y') (List.mem_of_getElem? hx')
            dsimp only at hbd'
            obtain ⟨b4, b5, b6⟩ := hbd'
            clear hx hx' e
            have g1 : decide (x < 0) = false := by simpa using c1
            have g2 : decide (y < x) = false := by simpa using c2
            have g3 : decide (95 < y) = false := by simpa using c3
            have g4 : decide (0 < (k : Int)) = true := by simpa using hk0
            have g5 : decide (x ≤ y' + 1) = false := by simpa using c4
            go_wp2_with fail
            refine wp_region_quiet_all (by kernel_rfl) (by kernel_rfl) ?_
            repeat (go_big_quiet_step (fail))
            refine wpQuiet_end ?_
            go_wp2_with fail
            go_roundw
            case rel => exact ⟨below_drew hB, k + 1, by go_num, by omega⟩
            case measure => simp [intOf] <;> omega
          · have g1 : decide (x < 0) = false := by simpa using c1
            have g2 : decide (y < x) = false := by simpa using c2
            have g3 : decide (95 < y) = false := by simpa using c3
            have g4 : decide (0 < (k : Int)) = false := by simpa using hk0
            have hk0' : ¬ 0 < (k : Int) := by omega
            clear hx
            go_wp2_with fail
            refine wp_region_quiet_all (by kernel_rfl) (by kernel_rfl) ?_
            repeat (go_big_quiet_step (fail))
            refine wpQuiet_end ?_
            go_wp2_with fail
            go_roundw
            case rel => exact ⟨below_drew hB, k + 1, by go_num, by omega⟩
            case measure => simp [intOf] <;> omega
        · obtain rfl : k = n1 := by omega
          go_wp2_with fail
          go_loopw [20] (fun s16 wr => Below w3.heap.size w3 wr ∧ ∃ k : Nat, s16 = .int .i64 k ∧ k ≤ n2) (fun s16 _ => n2 - (intOf s16).toNat)
          case atStart => exact ⟨hB, 0, rfl, by omega⟩
          case round =>
            clear hB
            obtain ⟨hB, j, rfl, hj⟩ := hrel
            by_cases hlj : j < n2
            · have hJ : (j : Int) < (n2 : Int) := by omega
              obtain ⟨⟨x, y⟩, hx⟩ : ∃ x, K[j]? = some x := ⟨_, List.getElem?_eq_getElem (by have := NK.out; omega)⟩
              have HK := hid hx
              have hin : withinB L (x, y) k = true := by
                obtain ⟨z, hz, z1, z2⟩ := WI.out (x, y) (List.mem_of_getElem? hx)
                unfold withinB
                rw [List.take_of_length_le (by have := NL.out; omega), List.any_eq_true]
                exact ⟨z, hz, by simp [z1, z2]⟩
              have HIN := hid hin
              clear hx hin
              go_wp2_with fail
              go_loopw [21, 22] (fun s21 s22 wr => Below w3.heap.size w3 wr ∧ ∃ i : Nat, s22 = .int .i64 i ∧ i ≤ k ∧ s21 = .bool (withinB L (x, y) i)) (fun _ s22 _ => k - (intOf s22).toNat)
              case atStart => exact ⟨hB, 0, rfl, by omega, rfl⟩
              case round =>
                clear hB
                obtain ⟨hB, i, rfl, hi, rfl⟩ := hrel
                by_cases hli : i < k
                · have hI : (i : Int) < (k : Int) := by omega
                  obtain ⟨⟨x', y'⟩, hx'⟩ : ∃ x, L[i]? = some x := ⟨_, List.getElem?_eq_getElem (by have := NL.out; omega)⟩
                  have HS := hid (withinB_succ L (x, y) _ i hx')
                  obtain ⟨b, off, rfl, d1, d2⟩ := HX.out.at hB i _ hx'
                  obtain ⟨b', off', rfl, d3, d4⟩ := HY.out.at hB j _ HK.out
                  dsimp only at d1 d2 d3 d4
                  clear hx'
                  cases hwi : withinB L (x, y) i
                  · have HWI := hid hwi
                    clear hwi
                    by_cases e1 : x' ≤ x
                    · have g1 : decide (x' ≤ x) = true := by simpa using e1
                      by_cases e2 : y ≤ y'
                      · have g2 : decide (y ≤ y') = true := by simpa using e2
                        go_wp2_with fail
                        refine wp_region_quiet_all (by kernel_rfl) (by kernel_rfl) ?_
                        repeat (go_big_quiet_step (fail))
                        refine wpQuiet_end ?_
                        go_wp2_with fail
                        go_roundw
                        case rel => exact ⟨below_drew hB, i + 1, by go_num, by omega, by rw [HS.out, HWI.out]; simp [*]⟩
                        case measure => simp [intOf] <;> omega
                      · have g2 : decide (y ≤ y') = false := by simpa using e2
                        go_wp2_with fail
                        refine wp_region_quiet_all (by kernel_rfl) (by kernel_rfl) ?_
                        repeat (go_big_quiet_step (fail))
                        refine wpQuiet_end ?_
                        go_wp2_with fail
                        go_roundw
                        case rel => exact ⟨below_drew hB, i + 1, by go_num, by omega, by rw [HS.out, HWI.out]; simp [*]⟩
                        case measure => simp [intOf] <;> omega
                    · have g1 : decide (x' ≤ x) = false := by simpa using e1
                      go_wp2_with fail
                      refine wp_region_quiet_all (by kernel_rfl) (by kernel_rfl) ?_
                      repeat (go_big_quiet_step (fail))
                      refine wpQuiet_end ?_
                      go_wp2_with fail
                      go_roundw
                      case rel => exact ⟨below_drew hB, i + 1, by go_num, by omega, by rw [HS.out, HWI.out]; simp [*]⟩
                      case measure => simp [intOf] <;> omega
                  · have HWI := hid hwi
                    clear hwi
                    go_wp2_with fail
                    refine wp_region_quiet_all (by kernel_rfl) (by kernel_rfl) ?_
                    repeat (go_big_quiet_step (fail))
                    refine wpQuiet_end ?_
                    go_wp2_with fail
                    go_roundw
                    case rel => exact ⟨below_drew hB, i + 1, by go_num, by omega, by rw [HS.out, HWI.out]; simp [*]⟩
                    case measure => simp [intOf] <;> omega
                · obtain rfl : i = k := by omega
                  rw [HIN.out]
                  go_wp2_with fail
                  exact ⟨⟨hB, j + 1, by go_num, by omega⟩, by simp [intOf] <;> omega⟩
            · obtain rfl : j = n2 := by omega
              go_wp2_with fail
              go_ret
              exact ⟨ret_bool (by first | rfl | (simp [*])), bthen hBB hB⟩
end Go.Proofs.Ytgelhndjdngdnaa
