/- calendar: the statements Turns, Once -/
import Derived.Test.YtlikkplipofghaaDoorCalHead
namespace Go.Proofs.YtlikkplipofghaaDoor
open Go.RowKit


theorem sid_slot (n s : Int) (h : 0 ≤ s ∧ s + 1 < 96) : sid (n * 96 + (s + 1)) = (sid (n * 96 + s) + 60) % 5760 := by
  unfold sid
  rw [show (n * 96 + (s + 1)) / 96 = n by omega, show (n * 96 + (s + 1)) % 96 = s + 1 by omega, show (n * 96 + s) / 96 = n by omega, show (n * 96 + s) % 96 = s by omega]
  omega
theorem sid_night (n s : Int) (h : 0 ≤ s ∧ s < 96) : sid ((n + 1) * 96 + s) = (sid (n * 96 + s) + 16) % 5760 := by
  unfold sid
  rw [show ((n + 1) * 96 + s) / 96 = n + 1 by omega, show ((n + 1) * 96 + s) % 96 = s by omega, show (n * 96 + s) / 96 = n by omega, show (n * 96 + s) % 96 = s by omega]
  omega


set_option maxHeartbeats 4000000 in
theorem turns_walk (m : Int) (w : World) (hL : Lay w) : Calls Tryd.prog 5 #[.int .i64 m] w fun e w' => e = .returned (.bool true) ∧ Below w.heap.size w w' := by
  by_cases h : mOk m
  · obtain ⟨m0, m1⟩ := h
    have hm : m / 96 * 96 + m % 96 = m := by omega
    have H1 := hid (fun w => split_yes m w m0 m1)
    have H2 := hid (fun w => sidereal_yes m w m0 m1)
    have hs := sid_slot (m / 96) (m % 96)
    have hn := sid_night (m / 96) (m % 96)
    rw [hm] at hs hn
    have hnb : 0 ≤ m / 96 ∧ m / 96 < 400 := by omega
    have hsb : 0 ≤ m % 96 ∧ m % 96 < 96 := by omega
    have HS := hid hs
    have HN := hid hn
    obtain ⟨a0, a1⟩ := sid_bd m
    clear hs hn hm
    generalize m / 96 = n at *
    generalize m % 96 = s at *
    obtain ⟨n0, n1⟩ := hnb
    obtain ⟨s0, s1⟩ := hsb
    by_cases c1 : s + 1 < 96
    · have H3 := hid (fun w => moment_yes n (s + 1) w ⟨n0, n1⟩ ⟨by omega, c1⟩)
      have h4 := fun w => sidereal_yes (n * 96 + (s + 1)) w (by omega) (by omega)
      rw [HS.out ⟨s0, c1⟩] at h4
      have H4 := hid h4
      clear h4
      by_cases c2 : n + 1 < 400
      · have H5 := hid (fun w => moment_yes (n + 1) s w ⟨by omega, c2⟩ ⟨s0, s1⟩)
        have h6 := fun w => sidereal_yes ((n + 1) * 96 + s) w (by omega) (by omega)
        rw [HN.out ⟨s0, s1⟩] at h6
        have H6 := hid h6
        clear h6
        generalize sid m = a at *
        go_enter Tryd.func5, Tryd.ntmps5  ;go_wp2_with fail  ;refine (head_any _ hL).mono ?_  ;rintro e w1 ⟨rfl, hB1⟩  ;go_wp2_with fail  ;refine (H1.out _).mono ?_  ;rintro e w' ⟨rfl, rfl⟩  ;go_wp2_with fail
        refine (H2.out _).mono ?_
        rintro e w' ⟨rfl, rfl⟩  ;go_wp2_with fail
        refine (H3.out _).mono ?_
        rintro e w' ⟨rfl, rfl⟩  ;go_wp2_with fail
        refine (H4.out _).mono ?_
        rintro e w' ⟨rfl, rfl⟩  ;go_wp2_with fail
        refine (H5.out _).mono ?_
        rintro e w' ⟨rfl, rfl⟩  ;go_wp2_with fail
        refine (H6.out _).mono ?_
        rintro e w' ⟨rfl, rfl⟩  ;go_wp2_with fail
        go_ret  ;exact ⟨ret_bool (by first | rfl | (simp [*])), hB1⟩
      · have H5 := hid (fun w => moment_no (n + 1) s w (fun h => c2 h.1.2))
        generalize sid m = a at *
        go_enter Tryd.func5, Tryd.ntmps5  ;go_wp2_with fail  ;refine (head_any _ hL).mono ?_  ;rintro e w1 ⟨rfl, hB1⟩  ;go_wp2_with fail  ;refine (H1.out _).mono ?_  ;rintro e w' ⟨rfl, rfl⟩  ;go_wp2_with fail
        refine (H2.out _).mono ?_
        rintro e w' ⟨rfl, rfl⟩  ;go_wp2_with fail
        refine (H3.out _).mono ?_
        rintro e w' ⟨rfl, rfl⟩  ;go_wp2_with fail
        refine (H4.out _).mono ?_
        rintro e w' ⟨rfl, rfl⟩  ;go_wp2_with fail
        refine (H5.out _).mono ?_
        rintro e w' ⟨rfl, rfl⟩  ;go_wp2_with fail
        go_ret  ;exact ⟨ret_bool (by first | rfl | (simp [*])), hB1⟩
    · have H3 := hid (fun w => moment_no n (s + 1) w (fun h => c1 h.2.2))
      by_cases c2 : n + 1 < 400
      · have H5 := hid (fun w => moment_yes (n + 1) s w ⟨by omega, c2⟩ ⟨s0, s1⟩)
        have h6 := fun w => sidereal_yes ((n + 1) * 96 + s) w (by omega) (by omega)
        rw [HN.out ⟨s0, s1⟩] at h6
        have H6 := hid h6
        clear h6
        generalize sid m = a at *
        go_enter Tryd.func5, Tryd.ntmps5  ;go_wp2_with fail  ;refine (head_any _ hL).mono ?_  ;rintro e w1 ⟨rfl, hB1⟩  ;go_wp2_with fail  ;refine (H1.out _).mono ?_  ;rintro e w' ⟨rfl, rfl⟩  ;go_wp2_with fail
        refine (H2.out _).mono ?_
        rintro e w' ⟨rfl, rfl⟩  ;go_wp2_with fail
        refine (H3.out _).mono ?_
        rintro e w' ⟨rfl, rfl⟩  ;go_wp2_with fail
        refine (H5.out _).mono ?_
        rintro e w' ⟨rfl, rfl⟩  ;go_wp2_with fail
        refine (H6.out _).mono ?_
        rintro e w' ⟨rfl, rfl⟩  ;go_wp2_with fail
        go_ret  ;exact ⟨ret_bool (by first | rfl | (simp [*])), hB1⟩
      · have H5 := hid (fun w => moment_no (n + 1) s w (fun h => c2 h.1.2))
        generalize sid m = a at *
        go_enter Tryd.func5, Tryd.ntmps5  ;go_wp2_with fail  ;refine (head_any _ hL).mono ?_  ;rintro e w1 ⟨rfl, hB1⟩  ;go_wp2_with fail  ;refine (H1.out _).mono ?_  ;rintro e w' ⟨rfl, rfl⟩  ;go_wp2_with fail
        refine (H2.out _).mono ?_
        rintro e w' ⟨rfl, rfl⟩  ;go_wp2_with fail
        refine (H3.out _).mono ?_
        rintro e w' ⟨rfl, rfl⟩  ;go_wp2_with fail
        refine (H5.out _).mono ?_
        rintro e w' ⟨rfl, rfl⟩  ;go_wp2_with fail
        go_ret  ;exact ⟨ret_bool (by first | rfl | (simp [*])), hB1⟩
  · have H1 := hid (fun w => split_no m w h)
    by_cases c : m < 0
    · clear h
      go_enter Tryd.func5, Tryd.ntmps5  ;go_wp2_with fail  ;refine (head_any _ hL).mono ?_  ;rintro e w1 ⟨rfl, hB1⟩  ;go_wp2_with fail  ;refine (H1.out _).mono ?_  ;rintro e w' ⟨rfl, rfl⟩  ;go_wp2_with fail
      go_ret  ;exact ⟨ret_bool (by first | rfl | (simp [*])), hB1⟩
    · have c2 : 38399 < m := by unfold mOk at h; omega
      clear h
      go_enter Tryd.func5, Tryd.ntmps5  ;go_wp2_with fail  ;refine (head_any _ hL).mono ?_  ;rintro e w1 ⟨rfl, hB1⟩  ;go_wp2_with fail  ;refine (H1.out _).mono ?_  ;rintro e w' ⟨rfl, rfl⟩  ;go_wp2_with fail
      go_ret  ;exact ⟨ret_bool (by first | rfl | (simp [*])), hB1⟩
end Go.Proofs.YtlikkplipofghaaDoor
