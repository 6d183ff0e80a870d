/- WeatherMoon -/
import Derived.Test.YtbkheiilcfhfpaaDoorWeaHead
namespace Go.Proofs.YtbkheiilcfhfpaaDoor
open Go.RowKit

def bgL (n t : Int) : Int × Int := if (0 ≤ n ∧ n ≤ 399) ∧ (0 ≤ t ∧ t ≤ 511) then (bgF n t, 0) else (0, 1)
theorem bg_any (n t : Int) (w : World) : Calls Tryd.prog 12 #[.int .i64 n, .int .i64 t] w fun e w' => e = .returned (.tuple #[.int .i64 (bgL n t).1, .int .i64 (bgL n t).2]) ∧ w = w' := by
  unfold bgL
  by_cases h : 0 ≤ n ∧ n ≤ 399
  · by_cases ht : 0 ≤ t ∧ t ≤ 511
    · rw [if_pos ⟨h, ht⟩]; exact bg_yes n t w h ht
    · rw [if_neg (fun x => ht x.2)]; exact bg_no2 n t w h ht
  · rw [if_neg (fun x => h x.1)]; exact bg_no1 n t w h
def moonL (n : Int) : Int × Int × Int := if 0 ≤ n ∧ n ≤ 399 then (brightF n, n % 32, 0) else (0, 0, 1)
theorem moon_any (n : Int) (w : World) : Calls Tryd.prog 11 #[.int .i64 n] w fun e w' => e = .returned (.tuple #[.int .i64 (moonL n).1, .int .i64 (moonL n).2.1, .int .i64 (moonL n).2.2]) ∧ w = w' := by
  unfold moonL
  by_cases h : 0 ≤ n ∧ n ≤ 399
  · rw [if_pos h]; exact moon_yes n w h
  · rw [if_neg h]; exact moon_no n w h
/-- the nearness of a tile's column -/
def nearF (n t : Int) : Int := 16 - min (awayF t (n % 32)) (32 - awayF t (n % 32))
theorem bgF_near (n t : Int) : bgF n t = brightF n * nearF n t / 1600 := rfl
theorem near_d (n t d : Int) (hn : 0 ≤ n) (ht : 0 ≤ t) (hd : d = (t % 32 - n % 32 + 32) % 32) : nearF n t = 16 - min d (32 - d) := by
  unfold nearF awayF; omega
theorem near_bd (n t : Int) (hn : 0 ≤ n) (ht : 0 ≤ t) : 0 ≤ nearF n t ∧ nearF n t ≤ 16 := by
  unfold nearF awayF; omega
theorem moonL_bad {n : Int} (h : ¬ (0 ≤ n ∧ n ≤ 399)) : moonL n = (0, 0, 1) := by unfold moonL; rw [if_neg h]
theorem moonL_ok {n : Int} (h : 0 ≤ n ∧ n ≤ 399) : moonL n = (brightF n, n % 32, 0) := by unfold moonL; rw [if_pos h]
theorem bgL_bad1 {n t : Int} (h : ¬ (0 ≤ n ∧ n ≤ 399)) : bgL n t = (0, 1) := by unfold bgL; rw [if_neg (fun x => h x.1)]
theorem bgL_bad2 {n t : Int} (h : ¬ (0 ≤ t ∧ t ≤ 511)) : bgL n t = (0, 1) := by unfold bgL; rw [if_neg (fun x => h x.2)]
theorem bgL_ok {n t : Int} (h : 0 ≤ n ∧ n ≤ 399) (ht : 0 ≤ t ∧ t ≤ 511) : bgL n t = (bgF n t, 0) := by unfold bgL; rw [if_pos ⟨h, ht⟩]
set_option maxHeartbeats 4000000 in
set_option maxRecDepth 100000 in
theorem moon_law (one two tile other : Int) (w : World) (w0 : (Lit.int .i64 one).wf = true) (w1 : (Lit.int .i64 two).wf = true) (w2 : (Lit.int .i64 tile).wf = true) (w3 : (Lit.int .i64 other).wf = true) :
    Calls Tryd.prog 4 #[.int .i64 one, .int .i64 two, .int .i64 tile, .int .i64 other] w fun e w' => e = .returned (.bool true) ∧ Below w.heap.size w w' := by
  have M1 := hid (fun w => moon_any one w)
  have M2 := hid (fun w => moon_any two w)
  have G1 := hid (fun w => bg_any one tile w)
  have G2 := hid (fun w => bg_any one other w)
  have o1 := i64_bd w0
  have o2 := i64_bd w1
  have o3 := i64_bd w2
  have o4 := i64_bd w3
  clear w0 w1 w2 w3
  by_cases h1 : 0 ≤ one ∧ one ≤ 399
  · by_cases h2 : 0 ≤ two ∧ two ≤ 399
    · by_cases h3 : 0 ≤ tile ∧ tile ≤ 511
      · by_cases h4 : 0 ≤ other ∧ other ≤ 511
        · -- all are valid
          rw [moonL_ok h1] at M1
          rw [moonL_ok h2] at M2
          rw [bgL_ok h1 h3] at G1
          rw [bgL_ok h1 h4] at G2
          obtain ⟨b1, b2⟩ := bright_bd one
          have HX := hid (bgF_near one tile)
          have HY := hid (bgF_near one other)
          have N1 := hid (near_d one tile ((tile % 32 - one % 32 + 32) % 32) h1.1 h3.1 rfl)
          have N2 := hid (near_d one other ((other % 32 - one % 32 + 32) % 32) h1.1 h4.1 rfl)
          have NB := hid (near_bd one tile h1.1 h3.1)
          have H30 : Hid ((one + two) % 30 = 0 → brightF two = brightF one) := by
            intro h; unfold brightF; omega
          obtain ⟨o5, o6⟩ := h1
          obtain ⟨o7, o8⟩ := h2
          obtain ⟨o9, o10⟩ := h3
          obtain ⟨o11, o12⟩ := h4
          have c1 : 0 ≤ one % 32 := by omega
          have c2 : one % 32 ≤ 31 := by omega
          have c3 : 0 ≤ tile % 32 := by omega
          have c4 : tile % 32 ≤ 31 := by omega
          have c5 : 0 ≤ other % 32 := by omega
          have c6 : other % 32 ≤ 31 := by omega
          have HXB : Hid (0 ≤ bgF one tile ∧ bgF one tile ≤ brightF one / 100) := by
            unfold Hid
            rw [HX.out]
            obtain ⟨n1, n2⟩ := NB.out
            have p1 := Int.mul_nonneg b1 n1
            have p2 : brightF one * nearF one tile ≤ brightF one * 16 := Int.mul_le_mul_of_nonneg_left n2 b1
            omega
          have HX0 : Hid ((tile % 32 - one % 32 + 32) % 32 = 0 → bgF one tile = brightF one / 100) := by
            intro h
            rw [HX.out, N1.out, h, show (16 : Int) - min 0 (32 - 0) = 16 from by omega]
            omega
          have HX16 : Hid ((tile % 32 - one % 32 + 32) % 32 = 16 → bgF one tile = 0) := by
            intro h
            rw [HX.out, N1.out, h, show (16 : Int) - min 16 (32 - 16) = 0 from by omega]
            omega
          have HXY : Hid (¬ (((tile % 32 - one % 32 + 32) % 32 + (other % 32 - one % 32 + 32) % 32) % 32 ≠ 0 ∧ (tile % 32 - one % 32 + 32) % 32 ≠ (other % 32 - one % 32 + 32) % 32) → bgF one other = bgF one tile) := by
            intro h
            have hn : nearF one other = nearF one tile := by
              rw [N1.out, N2.out]; omega
            rw [HX.out, HY.out, hn]
          clear HX HY N1 N2 NB
          generalize brightF one = a at *
          generalize brightF two = b at *
          generalize bgF one tile = x at *
          generalize bgF one other = y at *
          generalize hc : one % 32 = cl at *
          clear hc
          generalize two % 32 = cl2 at *
          go_enter Tryd.func4, Tryd.ntmps4
          go_wp2_with fail
          refine (head_any w).mono ?_
          rintro e w1 ⟨rfl, hB⟩
          go_wp2_with fail
          refine (M1.out _).mono ?_
          rintro e w' ⟨rfl, rfl⟩
          go_wp2_with fail
          refine (M2.out _).mono ?_
          rintro e w' ⟨rfl, rfl⟩
          go_wp2_with fail
          refine (G1.out _).mono ?_
          rintro e w' ⟨rfl, rfl⟩
          go_wp2_with fail
          refine (G2.out _).mono ?_
          rintro e w' ⟨rfl, rfl⟩
          clear M1 M2 G1 G2
          have HF := hid (And.intro (And.intro b1 b2) (And.intro c1 c2))
          obtain ⟨T, hT⟩ : ∃ T, tile % 32 = T := ⟨_, rfl⟩
          obtain ⟨O, hO⟩ : ∃ O, other % 32 = O := ⟨_, rfl⟩
          rw [hT] at HX0 HX16 HXY c3 c4
          rw [hO] at HXY c5 c6
          obtain ⟨d, hd⟩ : ∃ d, (T - cl + 32) % 32 = d := ⟨_, rfl⟩
          obtain ⟨e, he⟩ : ∃ e, (O - cl + 32) % 32 = e := ⟨_, rfl⟩
          rw [hd] at HX0 HX16 HXY
          rw [he] at HXY
          obtain ⟨Q, hQ⟩ : ∃ Q, a / 100 = Q := ⟨_, rfl⟩
          rw [hQ] at HX0 HXB
          obtain ⟨V, hV⟩ : ∃ V, (d + e) % 32 = V := ⟨_, rfl⟩
          rw [hV] at HXY
          have dd : 0 ≤ d ∧ d ≤ 31 := by omega
          have ee : 0 ≤ e ∧ e ≤ 31 := by omega
          have j1 : tile.tmod 32 = T := by rw [Int.tmod_eq_emod_of_nonneg o9]; exact hT
          have j2 : other.tmod 32 = O := by rw [Int.tmod_eq_emod_of_nonneg o11]; exact hO
          have j3 : (T - cl + 32).tmod 32 = d := by rw [Int.tmod_eq_emod_of_nonneg (by omega)]; exact hd
          have j4 : (O - cl + 32).tmod 32 = e := by rw [Int.tmod_eq_emod_of_nonneg (by omega)]; exact he
          have j5 : a.tdiv 100 = Q := by rw [Int.tdiv_eq_ediv_of_nonneg b1]; exact hQ
          have j6 : (d + e).tmod 32 = V := by rw [Int.tmod_eq_emod_of_nonneg (by omega)]; exact hV
          have HQQ := hid (show 0 ≤ Q ∧ Q ≤ 10 by omega)
          have HJ := hid (And.intro (And.intro (And.intro j1 hT) (And.intro j2 hO)) (And.intro (And.intro (And.intro j3 hd) (And.intro j4 he)) (And.intro (And.intro j5 hQ) (And.intro j6 hV))))
          have HK := hid (And.intro (And.intro (And.intro c3 c4) (And.intro c5 c6)) (And.intro dd ee))
          clear j1 j2 j3 j4 j5 j6 hT hO hd he hQ hV b1 b2 c1 c2 c3 c4 c5 c6 dd ee
          go_upto_region 8 with fail
          go_cut [119] from 94 to 118 (fun s119 wx => s119 = .bool false ∧ Below w.heap.size w wx)
          case first =>
            clear o1 o2 o3 o4 o9 o10 o11 o12 HX0 HX16 HXB HXY HJ HK
            obtain ⟨⟨b1, b2⟩, c1, c2⟩ := HF.out
            by_cases h30 : (one + two) % 30 = 0
            · have e0 : (a != b) = false := by have := H30.out h30; simp [this]
              clear H30
              go_wp2_with fail
              go_meet
              case rel => exact ⟨congrArg Value.bool (by first | rfl | (simp; done) | (simp; omega)), hB⟩
            · clear H30
              go_wp2_with fail
              go_meet
              case rel => exact ⟨congrArg Value.bool (by first | rfl | (simp; done) | (simp; omega)), hB⟩
          case rest =>
          obtain ⟨rfl, hB⟩ := hcut
          clear H30 o5 o6 o7 o8 o1 o2 o3 o4 o9 o10 o11 o12
          obtain ⟨⟨⟨j1, hT⟩, j2, hO⟩, ⟨⟨j3, hd⟩, j4, he⟩, -⟩ := HJ.out
          obtain ⟨⟨⟨c3, c4⟩, c5, c6⟩, -⟩ := HK.out
          obtain ⟨-, c1, c2⟩ := HF.out
          go_upto_region 12 with fail
          clear j1 hT j2 hO j3 hd j4 he c1 c2 c3 c4 c5 c6
          have HQ5 := hid HJ.out.2.2.1.1
          go_cut [157] from 132 to 156 (fun s157 wx => s157 = .bool false ∧ Below w.heap.size w wx)
          case first =>
            clear HXY HK HJ
            obtain ⟨q1, q2⟩ := HXB.out
            have j5 := HQ5.out
            obtain ⟨q3, q4⟩ := HQQ.out
            by_cases hd0 : d = 0
            · have e1 : (x != Q) = false := by have := HX0.out hd0; simp [this]
              have e2 : (d == 0) = true := by simp [hd0]
              have e3 : (d == 16) = false := by simp [hd0]
              clear HX0 HX16 HXB hd0 HF
              go_wp2_with fail
              go_meet
              case rel => exact ⟨congrArg Value.bool (by first | rfl | (simp; done) | (simp; omega)), hB⟩
            · have e2 : (d == 0) = false := by simp [hd0]
              by_cases hd16 : d = 16
              · have e1 : (x != 0) = false := by have := HX16.out hd16; simp [this]
                have e3 : (d == 16) = true := by simp [hd16]
                clear HX0 HX16 HXB hd0 hd16 HF
                go_wp2_with fail
                go_meet
                case rel => exact ⟨congrArg Value.bool (by first | rfl | (simp; done) | (simp; omega)), hB⟩
              · have e3 : (d == 16) = false := by simp [hd16]
                clear HX0 HX16 HXB hd0 hd16 HF
                go_wp2_with fail
                go_meet
                case rel => exact ⟨congrArg Value.bool (by first | rfl | (simp; done) | (simp; omega)), hB⟩
          case rest =>
          obtain ⟨rfl, hB⟩ := hcut
          clear HX0 HX16 HXB HF
          obtain ⟨dd, ee⟩ := HK.out.2
          obtain ⟨j6, hV⟩ := HJ.out.2.2.2
          clear HJ HK
          by_cases hl : V ≠ 0 ∧ d ≠ e
          · have l1 : (V != 0) = true := by simp [hl.1]
            have l2 : (d != e) = true := by simp [hl.2]
            clear HXY hl
            go_wp2_with fail
            all_goals (go_ret; exact ⟨ret_bool (by first | rfl | (simp; done)), hB⟩)
          · have l3 : (x == y) = true := by have := HXY.out hl; simp [this]
            clear HXY hl
            go_wp2_with fail
            all_goals (go_ret; exact ⟨ret_bool (by first | rfl | (simp; done)), hB⟩)
        · rw [bgL_bad2 h4] at G2
          rw [moonL_ok h1] at M1
          rw [moonL_ok h2] at M2
          rw [bgL_ok h1 h3] at G1
          generalize brightF one = a at *
          generalize brightF two = b at *
          generalize bgF one tile = x at *
          generalize one % 32 = c1 at *
          generalize two % 32 = c2 at *
          by_cases h5 : other < 0
          · clear h4
            (go_enter Tryd.func4, Tryd.ntmps4  ;go_wp2_with fail  ;refine (head_any w).mono ?_  ;rintro e w1 ⟨rfl, hB⟩  ;go_wp2_with fail  ;refine (M1.out _).mono ?_  ;rintro e w' ⟨rfl, rfl⟩  ;go_wp2_with fail  ;refine (M2.out _).mono ?_  ;rintro e w' ⟨rfl, rfl⟩  ;go_wp2_with fail  ;refine (G1.out _).mono ?_  ;rintro e w' ⟨rfl, rfl⟩  ;go_wp2_with fail  ;refine (G2.out _).mono ?_  ;rintro e w' ⟨rfl, rfl⟩  ;go_wp2_with fail)
            (go_ret  ;exact ⟨ret_bool (by first | rfl | simp | (simp; omega)), hB⟩)
          · have h6 : 512 ≤ other := by omega
            clear h4
            (go_enter Tryd.func4, Tryd.ntmps4  ;go_wp2_with fail  ;refine (head_any w).mono ?_  ;rintro e w1 ⟨rfl, hB⟩  ;go_wp2_with fail  ;refine (M1.out _).mono ?_  ;rintro e w' ⟨rfl, rfl⟩  ;go_wp2_with fail  ;refine (M2.out _).mono ?_  ;rintro e w' ⟨rfl, rfl⟩  ;go_wp2_with fail  ;refine (G1.out _).mono ?_  ;rintro e w' ⟨rfl, rfl⟩  ;go_wp2_with fail  ;refine (G2.out _).mono ?_  ;rintro e w' ⟨rfl, rfl⟩  ;go_wp2_with fail)
            (go_ret  ;exact ⟨ret_bool (by first | rfl | simp | (simp; omega)), hB⟩)
      · rw [bgL_bad2 h3] at G1
        rw [moonL_ok h1] at M1
        rw [moonL_ok h2] at M2
        generalize bgL one other = xy at *
        obtain ⟨y, h⟩ := xy
        generalize brightF one = a at *
        generalize brightF two = b at *
        generalize one % 32 = c1 at *
        generalize two % 32 = c2 at *
        by_cases h5 : tile < 0
        · clear h3
          (go_enter Tryd.func4, Tryd.ntmps4  ;go_wp2_with fail  ;refine (head_any w).mono ?_  ;rintro e w1 ⟨rfl, hB⟩  ;go_wp2_with fail  ;refine (M1.out _).mono ?_  ;rintro e w' ⟨rfl, rfl⟩  ;go_wp2_with fail  ;refine (M2.out _).mono ?_  ;rintro e w' ⟨rfl, rfl⟩  ;go_wp2_with fail  ;refine (G1.out _).mono ?_  ;rintro e w' ⟨rfl, rfl⟩  ;go_wp2_with fail  ;refine (G2.out _).mono ?_  ;rintro e w' ⟨rfl, rfl⟩  ;go_wp2_with fail)
          (go_ret  ;exact ⟨ret_bool (by first | rfl | simp | (simp; omega)), hB⟩)
        · have h6 : 512 ≤ tile := by omega
          clear h3
          (go_enter Tryd.func4, Tryd.ntmps4  ;go_wp2_with fail  ;refine (head_any w).mono ?_  ;rintro e w1 ⟨rfl, hB⟩  ;go_wp2_with fail  ;refine (M1.out _).mono ?_  ;rintro e w' ⟨rfl, rfl⟩  ;go_wp2_with fail  ;refine (M2.out _).mono ?_  ;rintro e w' ⟨rfl, rfl⟩  ;go_wp2_with fail  ;refine (G1.out _).mono ?_  ;rintro e w' ⟨rfl, rfl⟩  ;go_wp2_with fail  ;refine (G2.out _).mono ?_  ;rintro e w' ⟨rfl, rfl⟩  ;go_wp2_with fail)
          (go_ret  ;exact ⟨ret_bool (by first | rfl | simp | (simp; omega)), hB⟩)
    · rw [moonL_bad h2] at M2
      rw [moonL_ok h1] at M1
      generalize bgL one other = xy at *
      obtain ⟨y, h⟩ := xy
      generalize bgL one tile = xz at *
      obtain ⟨x, g⟩ := xz
      generalize brightF one = a at *
      generalize one % 32 = c1 at *
      by_cases h5 : two < 0
      · clear h2
        (go_enter Tryd.func4, Tryd.ntmps4  ;go_wp2_with fail  ;refine (head_any w).mono ?_  ;rintro e w1 ⟨rfl, hB⟩  ;go_wp2_with fail  ;refine (M1.out _).mono ?_  ;rintro e w' ⟨rfl, rfl⟩  ;go_wp2_with fail  ;refine (M2.out _).mono ?_  ;rintro e w' ⟨rfl, rfl⟩  ;go_wp2_with fail  ;refine (G1.out _).mono ?_  ;rintro e w' ⟨rfl, rfl⟩  ;go_wp2_with fail  ;refine (G2.out _).mono ?_  ;rintro e w' ⟨rfl, rfl⟩  ;go_wp2_with fail)
        (go_ret  ;exact ⟨ret_bool (by first | rfl | simp | (simp; omega)), hB⟩)
      · have h6 : 400 ≤ two := by omega
        clear h2
        (go_enter Tryd.func4, Tryd.ntmps4  ;go_wp2_with fail  ;refine (head_any w).mono ?_  ;rintro e w1 ⟨rfl, hB⟩  ;go_wp2_with fail  ;refine (M1.out _).mono ?_  ;rintro e w' ⟨rfl, rfl⟩  ;go_wp2_with fail  ;refine (M2.out _).mono ?_  ;rintro e w' ⟨rfl, rfl⟩  ;go_wp2_with fail  ;refine (G1.out _).mono ?_  ;rintro e w' ⟨rfl, rfl⟩  ;go_wp2_with fail  ;refine (G2.out _).mono ?_  ;rintro e w' ⟨rfl, rfl⟩  ;go_wp2_with fail)
        (go_ret  ;exact ⟨ret_bool (by first | rfl | simp | (simp; omega)), hB⟩)
  · rw [moonL_bad h1] at M1
    generalize bgL one other = xy at *
    obtain ⟨y, h⟩ := xy
    generalize bgL one tile = xz at *
    obtain ⟨x, g⟩ := xz
    generalize moonL two = m2 at *
    obtain ⟨b, c2, f⟩ := m2
    by_cases h5 : one < 0
    · clear h1
      (go_enter Tryd.func4, Tryd.ntmps4  ;go_wp2_with fail  ;refine (head_any w).mono ?_  ;rintro e w1 ⟨rfl, hB⟩  ;go_wp2_with fail  ;refine (M1.out _).mono ?_  ;rintro e w' ⟨rfl, rfl⟩  ;go_wp2_with fail  ;refine (M2.out _).mono ?_  ;rintro e w' ⟨rfl, rfl⟩  ;go_wp2_with fail  ;refine (G1.out _).mono ?_  ;rintro e w' ⟨rfl, rfl⟩  ;go_wp2_with fail  ;refine (G2.out _).mono ?_  ;rintro e w' ⟨rfl, rfl⟩  ;go_wp2_with fail)
      (go_ret  ;exact ⟨ret_bool (by first | rfl | simp | (simp; omega)), hB⟩)
    · have h6 : 400 ≤ one := by omega
      clear h1
      (go_enter Tryd.func4, Tryd.ntmps4  ;go_wp2_with fail  ;refine (head_any w).mono ?_  ;rintro e w1 ⟨rfl, hB⟩  ;go_wp2_with fail  ;refine (M1.out _).mono ?_  ;rintro e w' ⟨rfl, rfl⟩  ;go_wp2_with fail  ;refine (M2.out _).mono ?_  ;rintro e w' ⟨rfl, rfl⟩  ;go_wp2_with fail  ;refine (G1.out _).mono ?_  ;rintro e w' ⟨rfl, rfl⟩  ;go_wp2_with fail  ;refine (G2.out _).mono ?_  ;rintro e w' ⟨rfl, rfl⟩  ;go_wp2_with fail)
      (go_ret  ;exact ⟨ret_bool (by first | rfl | simp | (simp; omega)), hB⟩)
end Go.Proofs.YtbkheiilcfhfpaaDoor
