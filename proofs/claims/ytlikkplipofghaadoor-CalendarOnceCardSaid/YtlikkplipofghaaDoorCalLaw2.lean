/- calendar: the statement Once -/
import Derived.Test.YtlikkplipofghaaDoorCalHead
namespace Go.Proofs.YtlikkplipofghaaDoor
open Go.RowKit


/-- the slot of a night that reaches an angle -/
def slot0 (n a : Int) : Int := (((a - 16 * n) % 5760 + 59) / 60) % 96
theorem slot0_bd (n a : Int) : 0 ≤ slot0 n a ∧ slot0 n a < 96 := by unfold slot0; omega
theorem slot0_iff (n a s : Int) (h : 0 ≤ s ∧ s < 96) : reachB (n * 96 + s) a = decide (s = slot0 n a) := by
  unfold reachB
  apply decide_eq_decide.2
  unfold sid slot0
  rw [show (n * 96 + s) / 96 = n by omega, show (n * 96 + s) % 96 = s by omega]
  have e1 : ((60 * s + 16 * n) % 5760 + 5760 - a) % 5760 = (60 * s - (a - 16 * n) % 5760) % 5760 := by omega
  rw [e1]
  generalize hC : (a - 16 * n) % 5760 = C
  have hc : 0 ≤ C ∧ C < 5760 := by omega
  clear hC e1
  generalize hq : (C + 59) / 60 = q
  have h3 : q % 96 = q ∨ (q = 96 ∧ q % 96 = 0) := by omega
  rcases h3 with h3 | ⟨h3, h4⟩
  · rw [h3]; omega
  · rw [h4]; omega

/-- a reach comes within 191 moments -/
theorem reach_near (m a : Int) : ∃ j : Nat, j ≤ 190 ∧ reachB (m + (j : Int)) a = true := by
  have h1 := slot0_bd (m / 96) a
  have h2 := slot0_bd (m / 96 + 1) a
  by_cases h : m % 96 ≤ slot0 (m / 96) a
  · refine ⟨(slot0 (m / 96) a - m % 96).toNat, by omega, ?_⟩
    have e : m + (((slot0 (m / 96) a - m % 96).toNat : Nat) : Int) = m / 96 * 96 + slot0 (m / 96) a := by omega
    rw [e, slot0_iff _ _ _ h1]
    simp
  · refine ⟨(96 - m % 96 + slot0 (m / 96 + 1) a).toNat, by omega, ?_⟩
    have e : m + (((96 - m % 96 + slot0 (m / 96 + 1) a).toNat : Nat) : Int) = (m / 96 + 1) * 96 + slot0 (m / 96 + 1) a := by omega
    rw [e, slot0_iff _ _ _ h2]
    simp

theorem reaches_any (x a : Int) (w : World) (h : 0 ≤ x ∧ x ≤ 38399) (ha : 0 ≤ a ∧ a < 5760) : Calls Tryd.prog 20 #[.int .i64 x, .int .i64 a] w fun e w' => e = .returned (.bool (reachB x a)) ∧ w = w' := by
  have H1 := hid (fun w => sidereal_yes x w h.1 h.2)
  obtain ⟨s0, s1⟩ := sid_bd x
  unfold reachB
  rw [show sid x + 5760 - a = sid x - a + 5760 by omega]
  generalize sid x = s at *
  obtain ⟨a0, a1⟩ := ha
  clear h
  by_cases hlt : (s - a + 5760) % 5760 < 60
  · go_enter Tryd.func20, Tryd.ntmps20
    go_wp2_with (go_at_call 12; refine (H1.out _).mono ?_; rintro e w' ⟨rfl, rfl⟩)
    go_ret
    exact ⟨ret_bool (by simp), rfl⟩
  · go_enter Tryd.func20, Tryd.ntmps20
    go_wp2_with (go_at_call 12; refine (H1.out _).mono ?_; rintro e w' ⟨rfl, rfl⟩)
    go_ret
    exact ⟨ret_bool (by simp), rfl⟩

theorem next_bad {m a v e : Int} (h : NextA m a v e) (hm : ¬ maOk m a) : e = 1 := by
  rcases h with ⟨h, _⟩ | ⟨_, _, h⟩
  · exact absurd h hm
  · exact h


set_option maxHeartbeats 4000000 in
theorem once_bad (n m a : Int) (w : World) (hL : Lay w) (h : ¬ (0 ≤ a ∧ a < 5760)) : Calls Tryd.prog 6 #[.int .i64 n, .int .i64 m, .int .i64 a] w fun e w' => e = .returned (.bool true) ∧ Below w.heap.size w w' := by
  have HA := hid h
  by_cases c : a < 0
  · clear h
    go_enter Tryd.func6, Tryd.ntmps6  ;go_wp2_with fail  ;refine (head_any _ hL).mono ?_  ;rintro e w1 ⟨rfl, hB1⟩  ;go_wp2_with fail
    refine (next_any m a _).mono ?_  ;rintro e w2 ⟨v, er, rfl, hn, hB2⟩  ;obtain rfl : er = 1 := next_bad hn (fun h => HA.out h.2)  ;clear hn  ;go_wp2_with fail  ;go_ret  ;exact ⟨rfl, bthen hB1 hB2⟩
  · have c2 : 5760 ≤ a := by omega
    clear h
    go_enter Tryd.func6, Tryd.ntmps6  ;go_wp2_with fail  ;refine (head_any _ hL).mono ?_  ;rintro e w1 ⟨rfl, hB1⟩  ;go_wp2_with fail
    refine (next_any m a _).mono ?_  ;rintro e w2 ⟨v, er, rfl, hn, hB2⟩  ;obtain rfl : er = 1 := next_bad hn (fun h => HA.out h.2)  ;clear hn  ;go_wp2_with fail  ;go_ret  ;exact ⟨rfl, bthen hB1 hB2⟩

/-- what Next says of a moment: the end of the search -/
theorem next_good {m a v e : Int} (h : NextA m a v e) (hm : maOk m a) : (e = 0 ∧ m ≤ v ∧ v ≤ m + 190 ∧ v ≤ 38399 ∧ reachB v a = true ∧ ∀ j : Nat, m + (j : Int) < v → reachB (m + (j : Int)) a = false) ∨
    (e = 9 ∧ 38399 ≤ m + 190 ∧ ∀ j : Nat, m + (j : Int) < 38400 → reachB (m + (j : Int)) a = false) := by
  obtain ⟨j, hj, hr⟩ := reach_near m a
  rcases h with ⟨_, h⟩ | ⟨h, _⟩
  · rcases h with ⟨rfl, k, rfl, h1, h2, h3⟩ | ⟨rfl, rfl, h3⟩
    · have : k ≤ j := by
        rcases Nat.lt_or_ge j k with hlt | hge
        · rw [h3 j hlt] at hr; cases hr
        · exact hge
      exact .inl ⟨rfl, by omega, by omega, h1, h2, fun i hi => h3 i (by omega)⟩
    · refine .inr ⟨rfl, ?_, fun i hi => h3 i (by omega)⟩
      rcases Int.lt_or_le (m + 190) 38399 with hlt | hge
      · rw [h3 j (by omega)] at hr; cases hr
      · exact hge
  · exact absurd hm h



set_option maxHeartbeats 8000000 in
set_option maxRecDepth 100000 in
theorem once_good (n m a : Int) (w : World) (hL : Lay w) (h : 0 ≤ a ∧ a < 5760) : Calls Tryd.prog 6 #[.int .i64 n, .int .i64 m, .int .i64 a] w fun e w' => e = .returned (.bool true) ∧ Below w.heap.size w w' := by
  obtain ⟨a0, a1⟩ := h
  have c1 : ¬ a < 0 := by omega
  have c2 : ¬ 5760 ≤ a := by omega
  have HRE := hid (fun x w h => reaches_any x a w h ⟨a0, a1⟩)
  by_cases hn : 0 ≤ n ∧ n < 400
  · obtain ⟨n0, n1⟩ := hn
    have HMO := hid (fun s w h => moment_yes n s w ⟨n0, n1⟩ h)
    have HSI := hid (fun s => slot0_iff n a s)
    obtain ⟨z, hz⟩ : ∃ z : Nat, slot0 n a = (z : Int) := ⟨(slot0 n a).toNat, by have := slot0_bd n a; omega⟩
    have hz1 : z < 96 := by have := slot0_bd n a; omega
    rw [hz] at HSI
    clear hz
    go_enter Tryd.func6, Tryd.ntmps6  ;go_wp2_with fail  ;refine (head_any _ hL).mono ?_  ;rintro e w1 ⟨rfl, hB1⟩  ;go_wp2_with fail
    obtain ⟨wo, rfl⟩ : ∃ wo : World, wo = w1 := ⟨_, rfl⟩
    go_loopw [10, 11] (fun s10 s11 wr => wr = wo ∧ ∃ (j : Nat) (c : Int), s11 = .int .i64 j ∧ j ≤ 96 ∧ s10 = .int .i64 c ∧ 0 ≤ c ∧ c ≤ 1 ∧ Hid (c = if z < j then 1 else 0)) (fun _ s11 _ => 96 - (intOf s11).toNat)
    case atStart => exact ⟨rfl, 0, 0, rfl, by omega, rfl, by omega, by omega, hid (by rw [if_neg (by omega)])⟩
    case round =>
      obtain ⟨rfl, j, c, rfl, hj, rfl, b0, b1, HC⟩ := hrel
      by_cases hlt : j < 96
      · have hI : (j : Int) < 96 := by omega
        have H1 := hid (fun w => HMO.out (j : Int) w ⟨by omega, by omega⟩)
        have H2 := hid (fun w => HRE.out (n * 96 + (j : Int)) w (by omega))
        rw [HSI.out (j : Int) (by omega)] at H2
        by_cases hjz : (j : Int) = (z : Int)
        · rw [decide_eq_true hjz] at H2
          have hc : c = 0 := by rw [HC.out, if_neg (by omega)]
          subst hc
          have HJZ := hid hjz
          clear hjz
          go_wp2_with fail
          refine (H1.out _).mono ?_
          rintro e w' ⟨rfl, rfl⟩  ;go_wp2_with fail
          refine (H2.out _).mono ?_
          rintro e w' ⟨rfl, rfl⟩  ;go_wp2_with fail
          go_roundw
          case rel => exact ⟨(by first | trivial | rfl), j + 1, 1, by go_num, by omega, rfl, by omega, by omega, hid (by rw [if_pos (by have := HJZ.out; omega)])⟩
          case measure => simp [intOf] <;> omega
        · rw [decide_eq_false hjz] at H2
          have hc : c = if z < j + 1 then 1 else 0 := by
            rw [HC.out]
            by_cases hzj : z < j
            · rw [if_pos hzj, if_pos (by omega)]
            · rw [if_neg hzj, if_neg (by omega)]
          have HC2 := hid hc
          clear hc hjz
          go_wp2_with fail
          refine (H1.out _).mono ?_
          rintro e w' ⟨rfl, rfl⟩  ;go_wp2_with fail
          refine (H2.out _).mono ?_
          rintro e w' ⟨rfl, rfl⟩  ;go_wp2_with fail
          go_roundw
          case rel => exact ⟨(by first | trivial | rfl), j + 1, c, by go_num, by omega, rfl, b0, b1, HC2⟩
          case measure => simp [intOf] <;> omega
      · have hc : c = 1 := by rw [HC.out, if_pos (by omega)]
        subst hc
        have hI : ¬ (j : Int) < 96 := by omega
        by_cases hm : mOk m
        · have m0 := hm.1
          have m1 := hm.2
          have m2 : ¬ m < 0 := by omega
          have m3 : ¬ 38399 < m := by omega
          go_wp2_with fail
          refine (next_any m a _).mono ?_
          rintro e w2 ⟨v, er, rfl, hn, hB2⟩
          rcases next_good hn ⟨hm, a0, a1⟩ with ⟨rfl, e1, e2, e3, hr, hno⟩ | ⟨rfl, e1, hno⟩
          · clear hn
            have H2 := hid (fun w => HRE.out v w ⟨by omega, by omega⟩)
            rw [hr] at H2
            have HNO := hid hno
            have e4 : ¬ v < m := by omega
            have e5 : ¬ m + 190 < v := by omega
            clear hr hno hm
            go_wp2_with fail
            refine (H2.out _).mono ?_
            rintro e w' ⟨rfl, rfl⟩
            go_wp2_with fail
            go_loopw [17] (fun s17 wr => wr = w2 ∧ ∃ j : Nat, s17 = .int .i64 (m + (j : Int)) ∧ m + (j : Int) ≤ v) (fun s17 _ => (v - intOf s17).toNat)
            case atStart => exact ⟨rfl, 0, by simp, by omega⟩
            case round =>
              obtain ⟨rfl, j, rfl, hj⟩ := hrel
              by_cases hjl : m + (j : Int) < v
              · have H3 := hid (fun w => HRE.out (m + (j : Int)) w ⟨by omega, by omega⟩)
                rw [HNO.out j hjl] at H3
                go_wp2_with fail
                refine (H3.out _).mono ?_
                rintro e w' ⟨rfl, rfl⟩
                go_wp2_with fail
                go_roundw
                case rel => exact ⟨(by first | trivial | rfl), j + 1, by go_num, by omega⟩
                case measure => simp only [intOf]; omega
              · go_wp2_with fail
                go_ret
                exact ⟨rfl, bthen hB1 hB2⟩
            
          · clear hn
            have HNO := hid hno
            have e5 : ¬ m + 190 < 38399 := by omega
            clear hno hm
            go_wp2_with fail
            go_loopw [17] (fun s17 wr => wr = w2 ∧ ∃ j : Nat, s17 = .int .i64 (m + (j : Int)) ∧ m + (j : Int) ≤ 38400) (fun s17 _ => (38400 - intOf s17).toNat)
            case atStart => exact ⟨rfl, 0, by simp, by omega⟩
            case round =>
              obtain ⟨rfl, j, rfl, hj⟩ := hrel
              by_cases hjl : m + (j : Int) < 38400
              · have H3 := hid (fun w => HRE.out (m + (j : Int)) w ⟨by omega, by omega⟩)
                rw [HNO.out j hjl] at H3
                go_wp2_with fail
                refine (H3.out _).mono ?_
                rintro e w' ⟨rfl, rfl⟩
                go_wp2_with fail
                go_roundw
                case rel => exact ⟨(by first | trivial | rfl), j + 1, by go_num, by omega⟩
                case measure => simp only [intOf]; omega
              · go_wp2_with fail
                go_ret
                exact ⟨rfl, bthen hB1 hB2⟩
        · have HMB := hid (fun (h : maOk m a) => hm h.1)
          by_cases cm : m < 0
          · clear hm
            go_wp2_with fail
            refine (next_any m a _).mono ?_  ;rintro e w2 ⟨v, er, rfl, hn, hB2⟩  ;obtain rfl : er = 1 := next_bad hn HMB.out  ;clear hn  ;go_wp2_with fail  ;go_ret  ;exact ⟨rfl, bthen hB1 hB2⟩
          · have cm2 : 38399 < m := by unfold mOk at hm; omega
            clear hm
            go_wp2_with fail
            refine (next_any m a _).mono ?_  ;rintro e w2 ⟨v, er, rfl, hn, hB2⟩  ;obtain rfl : er = 1 := next_bad hn HMB.out  ;clear hn  ;go_wp2_with fail  ;go_ret  ;exact ⟨rfl, bthen hB1 hB2⟩
  · have night : ∀ (Pn : Prop), (n < 0 → Pn) → (¬ n < 0 → ¬ n < 400 → Pn) → Pn := fun Pn h1 h2 => by
      by_cases c : n < 0
      · exact h1 c
      · exact h2 c (by omega)
    clear hn
    refine night _ (fun q1 => ?_) (fun q1 q2 => ?_)
    all_goals
      by_cases hm : mOk m
      · have m0 := hm.1
        have m1 := hm.2
        have m2 : ¬ m < 0 := by omega
        have m3 : ¬ 38399 < m := by omega
        go_enter Tryd.func6, Tryd.ntmps6  ;go_wp2_with fail  ;refine (head_any _ hL).mono ?_  ;rintro e w1 ⟨rfl, hB1⟩  ;go_wp2_with fail
        refine (next_any m a _).mono ?_
        rintro e w2 ⟨v, er, rfl, hn, hB2⟩
        rcases next_good hn ⟨hm, a0, a1⟩ with ⟨rfl, e1, e2, e3, hr, hno⟩ | ⟨rfl, e1, hno⟩
        · clear hn
          have H2 := hid (fun w => HRE.out v w ⟨by omega, by omega⟩)
          rw [hr] at H2
          have HNO := hid hno
          have e4 : ¬ v < m := by omega
          have e5 : ¬ m + 190 < v := by omega
          clear hr hno hm
          go_wp2_with fail
          refine (H2.out _).mono ?_
          rintro e w' ⟨rfl, rfl⟩
          go_wp2_with fail
          go_loopw [17] (fun s17 wr => wr = w2 ∧ ∃ j : Nat, s17 = .int .i64 (m + (j : Int)) ∧ m + (j : Int) ≤ v) (fun s17 _ => (v - intOf s17).toNat)
          case atStart => exact ⟨rfl, 0, by simp, by omega⟩
          case round =>
            obtain ⟨rfl, j, rfl, hj⟩ := hrel
            by_cases hjl : m + (j : Int) < v
            · have H3 := hid (fun w => HRE.out (m + (j : Int)) w ⟨by omega, by omega⟩)
              rw [HNO.out j hjl] at H3
              go_wp2_with fail
              refine (H3.out _).mono ?_
              rintro e w' ⟨rfl, rfl⟩
              go_wp2_with fail
              go_roundw
              case rel => exact ⟨(by first | trivial | rfl), j + 1, by go_num, by omega⟩
              case measure => simp only [intOf]; omega
            · go_wp2_with fail
              go_ret
              exact ⟨rfl, bthen hB1 hB2⟩
          
        · clear hn
          have HNO := hid hno
          have e5 : ¬ m + 190 < 38399 := by omega
          clear hno hm
          go_wp2_with fail
          go_loopw [17] (fun s17 wr => wr = w2 ∧ ∃ j : Nat, s17 = .int .i64 (m + (j : Int)) ∧ m + (j : Int) ≤ 38400) (fun s17 _ => (38400 - intOf s17).toNat)
          case atStart => exact ⟨rfl, 0, by simp, by omega⟩
          case round =>
            obtain ⟨rfl, j, rfl, hj⟩ := hrel
            by_cases hjl : m + (j : Int) < 38400
            · have H3 := hid (fun w => HRE.out (m + (j : Int)) w ⟨by omega, by omega⟩)
              rw [HNO.out j hjl] at H3
              go_wp2_with fail
              refine (H3.out _).mono ?_
              rintro e w' ⟨rfl, rfl⟩
              go_wp2_with fail
              go_roundw
              case rel => exact ⟨(by first | trivial | rfl), j + 1, by go_num, by omega⟩
              case measure => simp only [intOf]; omega
            · go_wp2_with fail
              go_ret
              exact ⟨rfl, bthen hB1 hB2⟩
      · have HMB := hid (fun (h : maOk m a) => hm h.1)
        by_cases cm : m < 0
        · clear hm
          go_enter Tryd.func6, Tryd.ntmps6  ;go_wp2_with fail  ;refine (head_any _ hL).mono ?_  ;rintro e w1 ⟨rfl, hB1⟩  ;go_wp2_with fail
          refine (next_any m a _).mono ?_  ;rintro e w2 ⟨v, er, rfl, hn, hB2⟩  ;obtain rfl : er = 1 := next_bad hn HMB.out  ;clear hn  ;go_wp2_with fail  ;go_ret  ;exact ⟨rfl, bthen hB1 hB2⟩
        · have cm2 : 38399 < m := by unfold mOk at hm; omega
          clear hm
          go_enter Tryd.func6, Tryd.ntmps6  ;go_wp2_with fail  ;refine (head_any _ hL).mono ?_  ;rintro e w1 ⟨rfl, hB1⟩  ;go_wp2_with fail
          refine (next_any m a _).mono ?_  ;rintro e w2 ⟨v, er, rfl, hn, hB2⟩  ;obtain rfl : er = 1 := next_bad hn HMB.out  ;clear hn  ;go_wp2_with fail  ;go_ret  ;exact ⟨rfl, bthen hB1 hB2⟩

theorem once_walk (n m a : Int) (w : World) (hL : Lay w) : Calls Tryd.prog 6 #[.int .i64 n, .int .i64 m, .int .i64 a] w fun e w' => e = .returned (.bool true) ∧ Below w.heap.size w w' := by
  by_cases h : 0 ≤ a ∧ a < 5760
  · exact once_good n m a w hL h
  · exact once_bad n m a w hL h
end Go.Proofs.YtlikkplipofghaaDoor
