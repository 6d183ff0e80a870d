/- flow: the reserved words -/
import Derived.Test.YtogcnmjipfllaaaDoorFloSt4
import Derived.Test.YtogcnmjipfllaaaDoorLibN3
import Derived.Test.YtogcnmjipfllaaaDoorShelf
namespace Go.Proofs.YtogcnmjipfllaaaDoor
open Go.RowKit

def strV (l : List ByteArray) : List Value := l.map Value.string
def resW : List ByteArray := [⟨#[102, 108, 111, 119]⟩, ⟨#[111, 117, 116]⟩, (opr 1).word, (opr 5).word, (opr 6).word, (opr 7).word, (opr 8).word, (opr 9).word, (opr 10).word]
theorem oEs_mem {e : MapEntry} (h : e ∈ oEs.toList) : ∃ n : Nat, 1 ≤ n ∧ n ≤ 10 ∧ e = ⟨.int .i64 n, (opr n).v, n - 1⟩ := by
  simp only [oEs, List.mem_cons, List.not_mem_nil, or_false] at h
  rcases h with rfl | rfl | rfl | rfl | rfl | rfl | rfl | rfl | rfl | rfl
  · exact ⟨1, by omega, by omega, rfl⟩
  · exact ⟨2, by omega, by omega, rfl⟩
  · exact ⟨3, by omega, by omega, rfl⟩
  · exact ⟨4, by omega, by omega, rfl⟩
  · exact ⟨5, by omega, by omega, rfl⟩
  · exact ⟨6, by omega, by omega, rfl⟩
  · exact ⟨7, by omega, by omega, rfl⟩
  · exact ⟨8, by omega, by omega, rfl⟩
  · exact ⟨9, by omega, by omega, rfl⟩
  · exact ⟨10, by omega, by omega, rfl⟩
theorem oEs_has {n : Nat} (h1 : 1 ≤ n) (h2 : n ≤ 10) : (⟨.int .i64 n, (opr n).v, n - 1⟩ : MapEntry) ∈ oEs.toList := by
  have : n = 1 ∨ n = 2 ∨ n = 3 ∨ n = 4 ∨ n = 5 ∨ n = 6 ∨ n = 7 ∨ n = 8 ∨ n = 9 ∨ n = 10 := by omega
  rcases this with rfl | rfl | rfl | rfl | rfl | rfl | rfl | rfl | rfl | rfl <;> simp [oEs]
theorem oEs_born : ∀ x ∈ oEs.toList, x.born < 10 := by
  intro x hx
  obtain ⟨n, h1, h2, rfl⟩ := oEs_mem hx
  show n - 1 < 10
  omega
theorem oEs_nodup : (oEs.toList.map (·.born)).Nodup := by decide
theorem res_iff (s : ByteArray) : s ∈ resW ↔ s = ⟨#[102, 108, 111, 119]⟩ ∨ s = ⟨#[111, 117, 116]⟩ ∨ ∃ n : Nat, 1 ≤ n ∧ n ≤ 10 ∧ (opr n).word = s ∧ s ≠ ⟨#[]⟩ := by
  constructor
  · intro h
    simp only [resW, List.mem_cons, List.not_mem_nil, or_false] at h
    rcases h with rfl | rfl | rfl | rfl | rfl | rfl | rfl | rfl | rfl
    · exact .inl rfl
    · exact .inr (.inl rfl)
    · exact .inr (.inr ⟨1, by omega, by omega, rfl, by decide⟩)
    · exact .inr (.inr ⟨5, by omega, by omega, rfl, by decide⟩)
    · exact .inr (.inr ⟨6, by omega, by omega, rfl, by decide⟩)
    · exact .inr (.inr ⟨7, by omega, by omega, rfl, by decide⟩)
    · exact .inr (.inr ⟨8, by omega, by omega, rfl, by decide⟩)
    · exact .inr (.inr ⟨9, by omega, by omega, rfl, by decide⟩)
    · exact .inr (.inr ⟨10, by omega, by omega, rfl, by decide⟩)
  · rintro (rfl | rfl | ⟨n, h1, h2, rfl, h3⟩)
    · simp [resW]
    · simp [resW]
    · have : n = 1 ∨ n = 2 ∨ n = 3 ∨ n = 4 ∨ n = 5 ∨ n = 6 ∨ n = 7 ∨ n = 8 ∨ n = 9 ∨ n = 10 := by omega
      rcases this with rfl | rfl | rfl | rfl | rfl | rfl | rfl | rfl | rfl | rfl
      all_goals first | (exfalso; exact h3 rfl) | simp [resW]
theorem own_two (w : World) (E : TypeId) (a b : Value) : (w.alloc (.cells #[a, b] E)).ownsRow w.heap.size E 1 (.slice (some ⟨w.heap.size, 0, none⟩) 2 2) 2 [a, b] :=
  ⟨rfl, .inr ⟨w.heap.size, 2, #[a, b], rfl, Nat.le_refl _, by show (w.heap.push _)[w.heap.size]? = _; simp, Nat.le_refl _, by unfold maxLen; omega, rfl, rfl⟩⟩
theorem own_iter_ne {w : World} {B sz n r bm : Nat} {E : TypeId} {v : Value} {xs : List Value} {es : Array MapEntry} {seen : Array Nat} (h : w.ownsRow B E sz v n xs) (hI : Iter w r bm es seen) : ∀ k, v.ownBlock = some k → k ≠ r ∧ k ≠ bm := by
  intro k hk
  obtain ⟨_, _, _, _, _, _, q3, q5⟩ := hI.ex
  rcases h.2 with ⟨e, _⟩ | ⟨g, cap, cur, hv, _, hh, _⟩
  · rw [e] at hk; cases hk
  · rw [hv] at hk
    have hg : g = k := by simpa [Value.ownBlock] using hk
    subst hg
    refine ⟨?_, ?_⟩
    · rintro rfl; rw [q3] at hh; cases hh
    · rintro rfl; rw [q5] at hh; cases hh
theorem Iter.grown {w w' : World} {r bm : Nat} {es : Array MapEntry} {seen : Array Nat} {row : Option Nat} (h : Iter w r bm es seen) (hg : w.grownBy w' row) (hr : ∀ k, row = some k → k ≠ r ∧ k ≠ bm) : Iter w' r bm es seen := by
  obtain ⟨s, c, k, q1, q2, q0, q3, q5⟩ := h.ex
  exact ⟨s, c, k, q1, q2, q0, (hg.block r h.lt (fun e => (hr r e.symm).1 rfl)).trans q3, (hg.block bm h.ltm (fun e => (hr bm e.symm).2 rfl)).trans q5⟩
theorem Tryd.ulStrs : Tryd.prog.underlying 68 = some (.slice 9) := by kernel_rfl
theorem Tryd.inStr : (Tryd.prog.info? 9).map (fun i => (i.zero, i.size, i.bytes)) = some (some (.string ByteArray.empty), 1, 16) := by kernel_rfl
set_option maxHeartbeats 2000000 in
set_option maxRecDepth 100000 in
theorem reserved_any (w : World) : Calls Tryd.prog 54 #[] w fun e w' => ∃ ao cap l, e = .returned (.slice ao l.length cap) ∧ SlV w' ao (strV l) ∧ l.length ≤ 100 ∧ (∀ s, s ∈ l ↔ s ∈ resW) ∧ Below w.heap.size w w' := by
  have hOP := hid (fun w => operators_is w)
  go_enter Tryd.func54, Tryd.ntmps54
  go_wp2_with fail
  have how := own_two w 9 (.string ⟨#[102, 108, 111, 119]⟩) (.string ⟨#[111, 117, 116]⟩)
  have hB0 := below_alloc w (.cells #[.string ⟨#[102, 108, 111, 119]⟩, .string ⟨#[111, 117, 116]⟩] 9)
  refine (hOP.out _).mono ?_
  rintro e w1 ⟨rfl, rfl⟩
  have hm0 : ((w.alloc (.cells #[.string ⟨#[102, 108, 111, 119]⟩, .string ⟨#[111, 117, 116]⟩] 9)).alloc (.map oEs 10)).heap[(w.alloc (.cells #[.string ⟨#[102, 108, 111, 119]⟩, .string ⟨#[111, 117, 116]⟩] 9)).heap.size]? = some (.map oEs 10) := heap_alloc_new _ _
  have how1 := how.alloc (.map oEs 10)
  have hB1 := hB0.alloc hB0.size (.map oEs 10)
  clear how hB0 hOP
  generalize (w.alloc (.cells #[.string ⟨#[102, 108, 111, 119]⟩, .string ⟨#[111, 117, 116]⟩] 9)).alloc (.map oEs 10) = w1 at *
  generalize (w.alloc (.cells #[.string ⟨#[102, 108, 111, 119]⟩, .string ⟨#[111, 117, 116]⟩] 9)).heap.size = bm at *
  go_wp2_with (at_range; refine wpl_range rfl _ 54 rfl 3 52 Tryd.ulOps bm 10 oEs rfl hm0 oEs_born ?_; intro w6 hI hB6; go_frame)
  have hm1 : MineN 1 w.heap.size w w6 9 (.slice (some ⟨w.heap.size, 0, none⟩) 2 2) 2 (strV [⟨#[102, 108, 111, 119]⟩, ⟨#[111, 117, 116]⟩]) :=
    ⟨ownsRow_chgN how1 (Chg.ofBelow (S := fun _ => False) hB6) (fun _ _ h => h), hB1.trans (hB6.mono hB1.size), Nat.le_trans hB1.size hB6.size⟩
  have hrb := hB1.size
  generalize w1.heap.size = rb at *
  clear how1 hB1 hm0 hB6
  go_loopw [1] (fun s1 wq => ∃ (seen : Array Nat) (n : Nat) (l : List ByteArray), MineN 1 w.heap.size w wq 9 s1 n (strV l) ∧ Hid (l.length = n) ∧ Iter wq rb bm oEs seen ∧ Hid (∀ s, s ∈ l ↔ s = ⟨#[102, 108, 111, 119]⟩ ∨ s = ⟨#[111, 117, 116]⟩ ∨ ∃ n : Nat, 1 ≤ n ∧ n ≤ 10 ∧ seen.contains (n - 1) = true ∧ (opr n).word = s ∧ s ≠ ⟨#[]⟩) ∧ n + (leftOf oEs seen).size ≤ 12) (fun _ wq => wq.rangeLeft bm rb)
  case atStart =>
    have h10 : (leftOf oEs #[]).size ≤ oEs.size := by unfold leftOf; exact Array.size_filter_le
    have h11 : oEs.size = 10 := rfl
    exact ⟨#[], 2, _, hm1, hid rfl, hI, hid (fun s => by simp), by omega⟩
  case round =>
    clear hm1 hI
    obtain ⟨wk, hwk⟩ : ∃ wk : World, wk = wr := ⟨_, rfl⟩
    subst hwk
    obtain ⟨seen, n, l, hm, HL, hI, HS, hle⟩ := hrel
    have hlf := hI.left
    go_wp2_with (at_next; refine wpl_next rfl _ rfl rb bm oEs seen rfl hI oEs_nodup ?_ ?_)
    · intro h0
      have hall := all_seen oEs seen (by rw [h0]; rfl)
      have hres : ∀ s, s ∈ l ↔ s ∈ resW := by
        intro s
        rw [HS.out s, res_iff]
        constructor
        · rintro (h | h | ⟨n, h1, h2, _, h4, h5⟩)
          · exact .inl h
          · exact .inr (.inl h)
          · exact .inr (.inr ⟨n, h1, h2, h4, h5⟩)
        · rintro (h | h | ⟨n, h1, h2, h4, h5⟩)
          · exact .inl h
          · exact .inr (.inl h)
          · exact .inr (.inr ⟨n, h1, h2, hall _ (oEs_has h1 h2), h4, h5⟩)
      have HR := hid hres
      have hBm := hm.below
      obtain ⟨ao, cap, rfl, hsl, -⟩ := hm.slv (by unfold strV maxLen; rw [List.length_map, HL.out]; omega)
      clear hres hall hm HS hI hlf h0
      go_wp2_with fail
      go_ret
      exact ⟨ao, cap, l, by rw [HL.out]; rfl, hsl, by rw [HL.out]; omega, HR.out, hBm⟩
    · intro e w7 he hI7 hC7 hen
      replace he : e ∈ (leftOf oEs seen).toList := by simpa using he
      have hsh := left_shrinks oEs seen e he
      obtain ⟨hmem, -⟩ := mem_left he
      obtain ⟨k, hk1, hk2, rfl⟩ := oEs_mem hmem
      simp only at hI7 hsh hen
      have hm7 : MineN 1 w.heap.size w w7 9 u1 n (strV l) :=
        ⟨ownsRow_chgN hm.own hC7 (fun q hq h => (own_iter_ne hm.own hI q hq).1 h), hm.below.trans (hC7.toBelow hm.base (fun q hq => by omega)), Nat.le_trans hm.base hC7.size⟩
      have HK := hid (And.intro hk1 hk2)
      clear he hmem hm hI hk1 hk2
      unfold Opr.v at hen
      obtain ⟨ow, how⟩ : ∃ x, (opr k).word = x := ⟨_, rfl⟩
      have HOW := hid how
      rw [how] at hen
      generalize (opr k).sym = os at hen
      generalize (opr k).k = ok at hen
      generalize (opr k).t = ot at hen
      generalize (opr k).m = om at hen
      generalize (opr k).x = ox at hen
      clear how
      have hm8 : MineN 1 w.heap.size w (w7.alloc (.cells #[.string ow, .string os, .int .i64 ok, .bool ot, .bool om, .int .i64 ox] 52)) 9 u1 n (strV l) :=
        ⟨hm7.own.alloc _, hm7.below.alloc hm7.base _, by rw [World.size_alloc]; have := hm7.base; omega⟩
      have hI8 : Iter (w7.alloc (.cells #[.string ow, .string os, .int .i64 ok, .bool ot, .bool om, .int .i64 ox] 52)) rb bm oEs (seen.push (k - 1)) := hI7.chg (S := fun _ => False) (Chg.ofBelow (below_alloc _ _)) (fun h => h) (fun h => h)
      have hlf7 := hI8.left
      by_cases hem : ow = ⟨#[]⟩
      · have hE1 : ow.toList.isEmpty = true := by rw [hem, ByteArray.toList_eq]; rfl
        have hE2 : ow.toList = [] := by rw [hem, ByteArray.toList_eq]
        have HEM := hid hem
        clear hem hm7 hI7
        go_wp2_with fail
        go_roundw
        case rel =>
          refine ⟨seen.push (k - 1), n, l, hm8, HL, hI8, hid (fun s => ?_), by omega⟩
          rw [HS.out s]
          refine or_congr Iff.rfl (or_congr Iff.rfl ⟨?_, ?_⟩)
          · rintro ⟨j, h1, h2, h3, h4, h5⟩
            exact ⟨j, h1, h2, by rw [Array.contains_push, h3]; simp, h4, h5⟩
          · rintro ⟨j, h1, h2, h3, h4, h5⟩
            refine ⟨j, h1, h2, ?_, h4, h5⟩
            rw [Array.contains_push] at h3
            simp only [Bool.or_eq_true, beq_iff_eq] at h3
            rcases h3 with h3 | h3
            · exact h3
            · exfalso
              have hkj : j = k := by have := HK.out; omega
              rw [hkj, HOW.out] at h4
              exact h5 (by rw [← h4, HEM.out])
        case measure => rw [hlf7, hlf]; exact hsh
      · have hE0 : ow.toList ≠ [] := by
          rw [ByteArray.toList_eq]
          intro q
          exact hem (ByteArray.ext (Array.toList_inj.1 q))
        have hE1 : ow.toList.isEmpty = false := by simpa using hE0
        have HEM := hid hem
        have hL1 : n + 1 ≤ maxLen := by unfold maxLen; omega
        have hL2 : (n + 1) * 16 ≤ 140737488355328 := by omega
        have hone : ∀ u ∈ (#[Value.string ow] : Array Value).toList, u.oneCell' = true := by intro u hu; simp at hu; subst hu; rfl
        have HNE := hid (own_iter_ne hm8.own hI8)
        clear hem hm7 hI7
        go_wp2_with (at_builtin; refine wpl_appN rfl _ _ 68 rfl 9 _ 1 16 Tryd.ulStrs Tryd.inStr rfl (by decide) _ _ _ _ _ hm8 rfl #[.string ow] rfl hone (by rw [World.size_alloc]; rfl) hL1 hL2 ?_; intro g2 cap2 w9 hm9 hg9 hBg9 hat9)
        go_roundw
        case rel =>
          refine ⟨seen.push (k - 1), n + 1, l ++ [ow], ?_, hid (by rw [List.length_append, HL.out]; rfl), hI8.grown hg9 HNE.out, hid (fun s => ?_), by omega⟩
          · have e1 : strV (l ++ [ow]) = strV l ++ [.string ow] := by unfold strV; rw [List.map_append]; rfl
            rw [e1]
            exact hm9
          · rw [List.mem_append, HS.out s, List.mem_singleton]
            constructor
            · rintro ((h | h | ⟨j, h1, h2, h3, h4, h5⟩) | h)
              · exact .inl h
              · exact .inr (.inl h)
              · exact .inr (.inr ⟨j, h1, h2, by rw [Array.contains_push, h3]; simp, h4, h5⟩)
              · exact .inr (.inr ⟨k, HK.out.1, HK.out.2, by rw [Array.contains_push]; simp, by rw [HOW.out, h], by rw [h]; exact HEM.out⟩)
            · rintro (h | h | ⟨j, h1, h2, h3, h4, h5⟩)
              · exact .inl (.inl h)
              · exact .inl (.inr (.inl h))
              · rw [Array.contains_push] at h3
                simp only [Bool.or_eq_true, beq_iff_eq] at h3
                rcases h3 with h3 | h3
                · exact .inl (.inr (.inr ⟨j, h1, h2, h3, h4, h5⟩))
                · right
                  have hkj : j = k := by have := HK.out; omega
                  rw [hkj, HOW.out] at h4
                  exact h4.symm
        case measure => rw [(hI8.grown hg9 HNE.out).left, hlf]; exact hsh
end Go.Proofs.YtogcnmjipfllaaaDoor
