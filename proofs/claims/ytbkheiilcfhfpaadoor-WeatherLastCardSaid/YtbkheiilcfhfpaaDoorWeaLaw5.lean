/- WeatherLast -/
import Derived.Test.YtbkheiilcfhfpaaDoorWeaLaw1
import Derived.Test.YtbkheiilcfhfpaaDoorWeaText2
import Derived.Test.YtbkheiilcfhfpaaDoorStepN
import Derived.Deep.RegionHeldLaw
namespace Go.Proofs.YtbkheiilcfhfpaaDoor
open Go.RowKit

/-- what a further spell says -/
def lastC (m : Int) (c : Cd) (s : Sp) : Cd := stepC m c s
theorem cond_last (L : List Sp) (s : Sp) (m : Int) : condF (L ++ [s]) m = stepC m (condF L m) s := by
  unfold condF; rw [List.foldl_append]; rfl
theorem all_last (L : List Sp) (s : Sp) (h : L.length ≤ 20) : allB (L ++ [s]) = (allB L && allB [s]) := by
  unfold allB
  have h1 : decide ((L ++ [s]).length ≤ 200) = true := decide_eq_true (by simp; omega)
  have h2 : decide (L.length ≤ 200) = true := decide_eq_true (by omega)
  have h3 : decide ([s].length ≤ 200) = true := by simp
  rw [h1, h2, h3]
  simp
theorem sps_one (L : List Sp) : ∀ u ∈ spsCells L, u.oneCell' = true := by
  intro u hu
  unfold spsCells at hu
  obtain ⟨s, _, h⟩ := List.mem_flatMap.1 hu
  unfold Sp.cells at h
  simp at h
  rcases h with rfl | rfl | rfl | rfl | rfl <;> rfl
theorem form_cases {s : Sp} (h : formB s = true) : (s.k = 1 ∧ (s.q = 0 ∨ s.q = 1 ∨ s.q = 2 ∨ s.q = 3)) ∨ s.k = 2 ∨ s.k = 3 := by
  obtain ⟨k, q, n, a, b⟩ := s
  unfold formB isK at h
  simp only [Bool.and_eq_true, Bool.or_eq_true, beq_iff_eq] at h
  obtain ⟨⟨⟨⟨hk, _⟩, _⟩, _⟩, hv⟩ := h
  simp only at hk hv ⊢
  rcases hk with (rfl | rfl) | rfl
  · left
    unfold valK inR at hv
    simp only [Bool.and_eq_true, decide_eq_true_eq] at hv
    exact ⟨rfl, by omega⟩
  · exact .inr (.inl rfl)
  · exact .inr (.inr rfl)
theorem set6 {W : World} {z : Nat} {T : TypeId} {y0 y1 y2 y3 y4 y5 x0 x1 x2 x3 x4 x5 : Value} (h : Blk W z T [y0, y1, y2, y3, y4, y5]) : Blk ((((((W.setCell ⟨z, 0, none⟩ x0).setCell ⟨z, 1, none⟩ x1).setCell ⟨z, 2, none⟩ x2).setCell ⟨z, 3, none⟩ x3).setCell ⟨z, 4, none⟩ x4).setCell ⟨z, 5, none⟩ x5) z T [x0, x1, x2, x3, x4, x5] :=
  (((((h.set 0 x0).set 1 x1).set 2 x2).set 3 x3).set 4 x4).set 5 x5
theorem oth6 {W : World} {z x : Nat} {T : TypeId} {l : List Value} {x0 x1 x2 x3 x4 x5 : Value} (h : Blk W x T l) (hne : x ≠ z) : Blk ((((((W.setCell ⟨z, 0, none⟩ x0).setCell ⟨z, 1, none⟩ x1).setCell ⟨z, 2, none⟩ x2).setCell ⟨z, 3, none⟩ x3).setCell ⟨z, 4, none⟩ x4).setCell ⟨z, 5, none⟩ x5) x T l :=
  (((((h.other ⟨z, 0, none⟩ hne x0).other ⟨z, 1, none⟩ hne x1).other ⟨z, 2, none⟩ hne x2).other ⟨z, 3, none⟩ hne x3).other ⟨z, 4, none⟩ hne x4).other ⟨z, 5, none⟩ hne x5
theorem bel6 {w W : World} {z n : Nat} {x0 x1 x2 x3 x4 x5 : Value} (h : Below n w W) (hz : n ≤ z) : Below n w ((((((W.setCell ⟨z, 0, none⟩ x0).setCell ⟨z, 1, none⟩ x1).setCell ⟨z, 2, none⟩ x2).setCell ⟨z, 3, none⟩ x3).setCell ⟨z, 4, none⟩ x4).setCell ⟨z, 5, none⟩ x5) :=
  (((((h.setCell (p := ⟨z, 0, none⟩) hz x0).setCell (p := ⟨z, 1, none⟩) hz x1).setCell (p := ⟨z, 2, none⟩) hz x2).setCell (p := ⟨z, 3, none⟩) hz x3).setCell (p := ⟨z, 4, none⟩) hz x4).setCell (p := ⟨z, 5, none⟩) hz x5
theorem atL_yes {L : List Sp} {m : Int} (h : (allB L && momB m) = true) : atL L m = (condF L m, 0) := by unfold atL; rw [if_pos h]
theorem atL_no {L : List Sp} {m : Int} (h : ¬ (allB L && momB m) = true) : atL L m = (cd0, 1) := by unfold atL; rw [if_neg h]
theorem blk_newL (w : World) (l : List Value) (T : TypeId) : Blk (w.alloc (.cells l.toArray T)) w.heap.size T l := Blk.new w l.toArray T
theorem sp5 {W : World} {xb : Nat} {sk sq sn sa sb : Int} (h : Blk W xb 32 [.int .i64 sk, .int .i64 sq, .int .i64 sn, .int .i64 sa, .int .i64 sb]) : W.cell? ⟨xb, 0, none⟩ = some (.int .i64 sk) ∧ W.cell? ⟨xb, 1, none⟩ = some (.int .i64 sq) ∧ W.cell? ⟨xb, 2, none⟩ = some (.int .i64 sn) ∧ W.cell? ⟨xb, 3, none⟩ = some (.int .i64 sa) ∧ W.cell? ⟨xb, 4, none⟩ = some (.int .i64 sb) := ⟨h.cell 0, h.cell 1, h.cell 2, h.cell 3, h.cell 4⟩
theorem last_sps {L : List Sp} {s : Sp} {w : World} {B n cp : Nat} {ao : Option Addr} {m : Int} {R : Value → World → Prop}
    (H : ∀ (bo : Option Addr) (bc : Nat), Sps w bo (L ++ [s]) → Calls Tryd.prog 9 #[.slice bo n bc, .int .i64 m] w fun e w' => ∃ v, e = .returned v ∧ R v w')
    (h : w.ownsRow B 32 5 (.slice ao n cp) n (spsCells L ++ s.cells)) (hl : n * 5 ≤ maxLen) :
    Calls Tryd.prog 9 #[.slice ao n cp, .int .i64 m] w fun e w' => ∃ v, e = .returned v ∧ R v w' := by
  obtain ⟨mo, mc, hv, hs⟩ := own_rowZ h hl
  obtain ⟨rfl, rfl⟩ : ao = mo ∧ cp = mc := by cases hv; exact ⟨rfl, rfl⟩
  refine H ao cp ?_
  unfold Sps
  have e : spsCells (L ++ [s]) = spsCells L ++ s.cells := by simp [spsCells]
  rw [e]
  exact hs
set_option maxHeartbeats 40000000 in
set_option maxRecDepth 100000 in
theorem last_walk (ao : Option Addr) (len cap : Nat) (L : List Sp) (s : Sp) (m : Int) (w : World) (hse : SpsArg w ao len cap L) (hsw : SpWf s) (w2 : (Lit.int .i64 m).wf = true) (hLay : Lay w) :
    Calls Tryd.prog 7 #[.slice ao len cap, s.v, .int .i64 m] w fun e w' => e = .returned (.bool true) ∧ Below w.heap.size w w' := by
  have hmx := hse.hmax
  have hcp := hse.hcap
  obtain ⟨sk, sq, sn, sa, sb⟩ := s
  simp only [Sp.v, Sp.cells]
  by_cases h20 : 20 < len
  · have h20i : (20 : Int) < (len : Int) := by omega
    unfold maxLen at hmx
    go_enter Tryd.func7, Tryd.ntmps7
    go_wp2_with fail
    obtain ⟨w3, hw3, hx, hB3⟩ := sp_world sk sq sn sa sb w
    rw [hw3]
    clear hw3
    refine (head_any w3).mono ?_
    rintro e w4 ⟨rfl, hB⟩
    go_wp2_with fail
    go_ret
    exact ⟨rfl, hB3.trans (hB.mono hB3.size)⟩
  have hA := hse.sps (by omega)
  have HLE := hid hse.hlen
  have HA1 := hid (fun (w : World) (h : Sps w ao L) => (hse.hlen ▸ cond_any ao cap L m w h (by rw [hse.hlen]; omega) : Calls Tryd.prog 9 #[.slice ao len cap, .int .i64 m] w fun e w' => e = .returned (.tuple #[(atL L m).1.v, .int .i64 (atL L m).2]) ∧ Below w.heap.size w w'))
  have hnil := hse.hnil
  clear hse
  generalize hR1 : atL L m = R1 at *
  obtain ⟨⟨c0, c1, c2, c3, c4, c5⟩, x⟩ := R1
  simp only [Cd.v, Cd.cells] at HA1
  go_enter Tryd.func7, Tryd.ntmps7
  go_wp2_with fail
  obtain ⟨w3, hw3, hx, hB⟩ := sp_world sk sq sn sa sb w
  rw [hw3]
  clear hw3
  refine (head_any w3).mono ?_
  rintro e w4 ⟨rfl, hB1⟩
  replace hx := hx.below hB1 hx.lt
  replace hB := hB.trans (hB1.mono hB.size)
  clear hB1
  go_wp2_with fail
  refine (HA1.out _ (hA.below hB)).mono ?_
  rintro e w5 ⟨rfl, hB1⟩
  replace hx := hx.below hB1 hx.lt
  replace hB := hB.trans (hB1.mono hB.size)
  clear hB1
  obtain ⟨xb, hxb⟩ : ∃ xb, w.heap.size = xb := ⟨_, rfl⟩
  rw [hxb] at hx ⊢
  have hx0 : w5.cell? ⟨xb, 0, none⟩ = some (.int .i64 sk) := hx.cell 0
  have hx1 : w5.cell? ⟨xb, 1, none⟩ = some (.int .i64 sq) := hx.cell 1
  have hx2 : w5.cell? ⟨xb, 2, none⟩ = some (.int .i64 sn) := hx.cell 2
  have hx3 : w5.cell? ⟨xb, 3, none⟩ = some (.int .i64 sa) := hx.cell 3
  have hx4 : w5.cell? ⟨xb, 4, none⟩ = some (.int .i64 sb) := hx.cell 4
  go_upto_region 5 with fail
  obtain ⟨W1, hW1, ha, hBa⟩ := cd_world w5 ⟨c0, c1, c2, c3, c4, c5⟩
  simp only [Cd.cells] at hW1 ha
  rw [hW1]
  clear hW1 hx0 hx1 hx2 hx3 hx4
  replace hx := hx.below hBa hx.lt
  have hba := hB.size
  replace hB := hB.trans (hBa.mono hB.size)
  clear hBa
  generalize w5.heap.size = ba at *
  have hx0 : W1.cell? ⟨xb, 0, none⟩ = some (.int .i64 sk) := hx.cell 0
  have hx1 : W1.cell? ⟨xb, 1, none⟩ = some (.int .i64 sq) := hx.cell 1
  have hx2 : W1.cell? ⟨xb, 2, none⟩ = some (.int .i64 sn) := hx.cell 2
  have hx3 : W1.cell? ⟨xb, 3, none⟩ = some (.int .i64 sa) := hx.cell 3
  have hx4 : W1.cell? ⟨xb, 4, none⟩ = some (.int .i64 sb) := hx.cell 4
  go_wp2_with fail
  have hs5 : Sps (W1.alloc (.cells #[.int .i64 sk, .int .i64 sq, .int .i64 sn, .int .i64 sa, .int .i64 sb] 32)) (some ⟨W1.heap.size, 0, none⟩) [⟨sk, sq, sn, sa, sb⟩] := slv_made W1 #[.int .i64 sk, .int .i64 sq, .int .i64 sn, .int .i64 sa, .int .i64 sb] 32 (by simp)
  have hB5 := below_alloc W1 (.cells #[.int .i64 sk, .int .i64 sq, .int .i64 sn, .int .i64 sa, .int .i64 sb] 32)
  replace hx := hx.below hB5 hx.lt
  replace ha := ha.below hB5 ha.lt
  replace hB := hB.trans (hB5.mono hB.size)
  clear hB5 hx0 hx1 hx2 hx3 hx4
  generalize W1.alloc (.cells #[.int .i64 sk, .int .i64 sq, .int .i64 sn, .int .i64 sa, .int .i64 sb] 32) = W2 at *
  generalize W1.heap.size = sb5 at *
  have HT := hid (text_any (some ⟨sb5, 0, none⟩) 1 [⟨sk, sq, sn, sa, sb⟩] W2 hs5 (by simp) (hLay.below hB))
  clear hs5
  generalize hT : textR [⟨sk, sq, sn, sa, sb⟩] = T at *
  obtain ⟨tx, y⟩ := T
  simp only [List.length_singleton] at HT
  refine HT.out.mono ?_
  rintro e w6 ⟨rfl, hB5⟩
  replace hx := hx.below hB5 hx.lt
  replace ha := ha.below hB5 ha.lt
  replace hB := hB.trans (hB5.mono hB.size)
  clear hB5 HT
  have hx0 : w6.cell? ⟨xb, 0, none⟩ = some (.int .i64 sk) := hx.cell 0
  have hx1 : w6.cell? ⟨xb, 1, none⟩ = some (.int .i64 sq) := hx.cell 1
  have hx2 : w6.cell? ⟨xb, 2, none⟩ = some (.int .i64 sn) := hx.cell 2
  have hx3 : w6.cell? ⟨xb, 3, none⟩ = some (.int .i64 sa) := hx.cell 3
  have hx4 : w6.cell? ⟨xb, 4, none⟩ = some (.int .i64 sb) := hx.cell 4
  have hA6 := hA.below hB
  have hvl : (spsCells L).length = len * 5 := by rw [spsCells_len, HLE.out]; omega
  have hone := sps_one L
  have hsone : ∀ u ∈ ([.int .i64 sk, .int .i64 sq, .int .i64 sn, .int .i64 sa, .int .i64 sb] : List Value), u.oneCell' = true := by simp [Value.oneCell']
  have hk1 : len ≤ maxLen := by unfold maxLen; omega
  have hk2 : len * 40 ≤ 140737488355328 := by omega
  have hk3 : len + 1 ≤ maxLen := by unfold maxLen; omega
  have hk4 : (len + 1) * 40 ≤ 140737488355328 := by omega
  obtain ⟨i9, hi9, hz9, hs9, hb9⟩ := info_parts Tryd.infoSpell
  generalize hR3 : atL (L ++ [⟨sk, sq, sn, sa, sb⟩]) m = R3
  obtain ⟨⟨d0, d1, d2, d3, d4, d5⟩, z⟩ := R3
  have HA3 : Hid (∀ (w : World) (bo : Option Addr) (bc : Nat), Sps w bo (L ++ [⟨sk, sq, sn, sa, sb⟩]) → Calls Tryd.prog 9 #[.slice bo (len + 1) bc, .int .i64 m] w fun e w' => ∃ v, e = .returned v ∧ (v = .tuple #[.agg #[.int .i64 d0, .int .i64 d1, .int .i64 d2, .int .i64 d3, .int .i64 d4, .bool d5], .int .i64 z] ∧ Below w.heap.size w w')) := by
    intro w bo bc h
    have := cond_any bo bc (L ++ [⟨sk, sq, sn, sa, sb⟩]) m w h (by simp [HLE.out]; omega)
    rw [List.length_append, HLE.out, hR3] at this
    exact this.mono (fun e w' q => ⟨_, q.1, rfl, q.2⟩)
  have hTE : (26 : TypeId) ≠ 32 := by decide
  have hk5 : (len + 1) * 5 ≤ maxLen := by unfold maxLen; omega
  go_upto_region 6 with fail
  go_cut [12, 13] from 31 to 41 (fun s12 s13 wx => ∃ zb, s12 = .pointer (some ⟨zb, 0, none⟩) ∧ s13 = .int .i64 z ∧ Blk wx zb 26 [.int .i64 d0, .int .i64 d1, .int .i64 d2, .int .i64 d3, .int .i64 d4, .bool d5] ∧ zb ≠ ba ∧ Blk wx xb 32 [.int .i64 sk, .int .i64 sq, .int .i64 sn, .int .i64 sa, .int .i64 sb] ∧ Blk wx ba 26 [.int .i64 c0, .int .i64 c1, .int .i64 c2, .int .i64 c3, .int .i64 c4, .bool c5] ∧ Below w.heap.size w wx)
  case first =>
    go_region_held_law (fun w' => w'.cell? ⟨xb, 0, none⟩ = some (.int .i64 sk) ∧ w'.cell? ⟨xb, 1, none⟩ = some (.int .i64 sq) ∧ w'.cell? ⟨xb, 2, none⟩ = some (.int .i64 sn) ∧ w'.cell? ⟨xb, 3, none⟩ = some (.int .i64 sa) ∧ w'.cell? ⟨xb, 4, none⟩ = some (.int .i64 sb)) (first | (go_keep; done) | exact sp5 (blk_dr (((hx.alloc _).alloc _).alloc _)) | exact sp5 (((hx5.alloc _).alloc _)) | exact sp5 (((hx5.alloc _).alloc _).alloc _))
      (first
        | (refine step_appsB (by rfl) (.tmp 32) (.tmp 33) 22 (by rfl) 32 i9 _ 5 40 Tryd.underlying22 hi9 hz9 hs9 hb9 (by decide) (by decide) w6 _ 0 [] (by rfl) ao cap len (spsCells L) (by rfl) hvl hnil hone len (by omega) hk1 hk2 ?_ ?_ ?_ ?_; (repeat (first | exact Below.refl _ _ | refine bel_al ?_ _ | refine bel_dr ?_)); (repeat (first | (refine own_new 32 5 (Below.size (B := w6.heap.size) (w := w6) (by (repeat (first | exact Below.refl _ _ | refine bel_al ?_ _ | refine bel_dr ?_)))) (by (first | rfl | (simp only [World.size_alloc])))) | refine own_al ?_ _ | refine own_dr ?_)); (exact SlV.below hA6 (by (repeat (first | exact Below.refl _ _ | refine bel_al ?_ _ | refine bel_dr ?_)))); intro ao1 cp1 w5 o5 g5 B5 Z5; have S5 := sl_gr g5; (first | (have hz5 := Z5 _ _ _ hTE (blk_dr (Blk.new _ _ _))) | (have hz5 := Z5 _ _ _ hTE (blk_dr (Blk.alloc (Blk.new _ _ _) _))) | (have hz5 := Z5 _ _ _ hTE (blk_dr (Blk.alloc (Blk.alloc (Blk.new _ _ _) _) _))) | skip); (try simp only [World.size_alloc] at hz5); have hx5 := hx.below B5 hx.lt; have cx0 : w5.cell? ⟨xb, 0, none⟩ = some (.int .i64 sk) := hx5.cell 0; have cx1 : w5.cell? ⟨xb, 1, none⟩ = some (.int .i64 sq) := hx5.cell 1; have cx2 : w5.cell? ⟨xb, 2, none⟩ = some (.int .i64 sn) := hx5.cell 2; have cx3 : w5.cell? ⟨xb, 3, none⟩ = some (.int .i64 sa) := hx5.cell 3; have cx4 : w5.cell? ⟨xb, 4, none⟩ = some (.int .i64 sb) := hx5.cell 4)
        | (refine step_appsB (by rfl) (.tmp 34) (.tmp 36) 22 (by rfl) 32 i9 _ 5 40 Tryd.underlying22 hi9 hz9 hs9 hb9 (by decide) (by decide) w6 _ len ([] ++ spsCells L) (by rfl) _ 1 1 [.int .i64 sk, .int .i64 sq, .int .i64 sn, .int .i64 sa, .int .i64 sb] (by rfl) (by simp) (by intro h; cases h) hsone (len + 1) rfl hk3 hk4 ?_ ?_ ?_ ?_; (repeat (first | exact B5 | refine bel_al ?_ _ | refine bel_dr ?_)); (repeat (first | exact o5 | refine own_al ?_ _ | refine own_dr ?_)); (repeat (first | exact sl_new #[.int .i64 sk, .int .i64 sq, .int .i64 sn, .int .i64 sa, .int .i64 sb] 32 (by simp) (by (first | rfl | (simp only [World.size_alloc]))) | refine sl_al ?_ _ | refine SlV.drew ?_ | (refine S5 _ _ (by omega) ?_))); intro ao2 cp2 w7 o7 g7 B7 Z7; (first | (have hz7 := Z7 _ _ _ hTE hz5) | (have hz7 := Z7 _ _ _ hTE (Blk.alloc hz5 _)) | (have hz7 := Z7 _ _ _ hTE (Blk.new _ _ _)) | (have hz7 := Z7 _ _ _ hTE (Blk.alloc (Blk.new _ _ _) _)) | skip); (try simp only [World.size_alloc] at hz7); have hx7 := hx.below B7 hx.lt; have cy0 : w7.cell? ⟨xb, 0, none⟩ = some (.int .i64 sk) := hx7.cell 0; have cy1 : w7.cell? ⟨xb, 1, none⟩ = some (.int .i64 sq) := hx7.cell 1; have cy2 : w7.cell? ⟨xb, 2, none⟩ = some (.int .i64 sn) := hx7.cell 2; have cy3 : w7.cell? ⟨xb, 3, none⟩ = some (.int .i64 sa) := hx7.cell 3; have cy4 : w7.cell? ⟨xb, 4, none⟩ = some (.int .i64 sb) := hx7.cell 4)
        | (refine step_callE _ (by rfl) 9 #[.slice ao2 (len + 1) cp2, .int .i64 m] _ rfl ?_ (last_sps (B := w6.heap.size) (L := L) (s := ⟨sk, sq, sn, sa, sb⟩) (HA3.out _) ?_ hk5) ?_; kernel_rfl; (repeat (first | exact o7 | refine own_al ?_ _)); intro v8 w8 hr8; obtain ⟨rfl, B8⟩ := hr8; have B9 := bel_then (w := w6) B8 (by (repeat (first | exact Below.refl _ _ | exact B7 | exact B5 | refine bel_al ?_ _ | refine bel_dr ?_))); have hx8 := hx.below B9 hx.lt; have cv0 : w8.cell? ⟨xb, 0, none⟩ = some (.int .i64 sk) := hx8.cell 0; have cv1 : w8.cell? ⟨xb, 1, none⟩ = some (.int .i64 sq) := hx8.cell 1; have cv2 : w8.cell? ⟨xb, 2, none⟩ = some (.int .i64 sn) := hx8.cell 2; have cv3 : w8.cell? ⟨xb, 3, none⟩ = some (.int .i64 sa) := hx8.cell 3; have cv4 : w8.cell? ⟨xb, 4, none⟩ = some (.int .i64 sb) := hx8.cell 4; (first | (have hz8 := blk_after B8 hz7) | (have hz8 := blk_after B8 (Blk.new w7 #[.int .i64 0, .int .i64 0, .int .i64 0, .int .i64 0, .int .i64 0, .bool false] 26)) | skip); (try (have hne8 := blk_ne hz8 hx8 hTE; have cz0 := hz8.cell 0; have fz0 := hz8.free 0; have cz1 := hz8.cell 1; have fz1 := hz8.free 1; have cz2 := hz8.cell 2; have fz2 := hz8.free 2; have cz3 := hz8.cell 3; have fz3 := hz8.free 3; have cz4 := hz8.cell 4; have fz4 := hz8.free 4; have cz5 := hz8.cell 5; have fz5 := hz8.free 5; simp only [List.getElem?_cons_succ, List.getElem?_cons_zero] at cz0 cz1 cz2 cz3 cz4 cz5))))
    all_goals
      have hal := ha.lt
      have s0 := hB.size
      have s5 := B5.size
      have s7 := B7.size
      have s9 := B9.size
      have ha8 := ha.below B9 hal
      have hB9 := hB.trans (B9.mono hB.size)
      (try clear cz0 cz1 cz2 cz3 cz4 cz5 fz0 fz1 fz2 fz3 fz4 fz5)
      clear cv0 cv1 cv2 cv3 cv4 cy0 cy1 cy2 cy3 cy4 cx0 cx1 cx2 cx3 cx4 hx0 hx1 hx2 hx3 hx4 B8
      go_wp2_with fail
      go_meet
      case rel =>
        first
          | with_reducible exact ⟨w8.heap.size, rfl, rfl, blk_newL w8 _ _, by omega, hx8.alloc _, ha8.alloc _, hB9.alloc (by omega) _⟩
          | exact ⟨_, rfl, rfl, set6 hz8, by omega, oth6 hx8 hne8.2, oth6 ha8 (by omega), bel6 hB9 (by omega)⟩
  case rest =>
  obtain ⟨zb, rfl, rfl, hzb, hzn, hx', ha', hB'⟩ := hcut
  clear hx ha hB hx0 hx1 hx2 hx3 hx4 hA6 hvl hone hsone hk1 hk2 hk3 hk4 hk5 hi9 hz9 hs9 hb9 HA3 HA1
  by_cases hv : (allB L && momB m) = true
  · rw [atL_yes hv] at hR1
    obtain ⟨hR1c, rfl⟩ := Prod.mk.inj hR1
    by_cases hf : allB [⟨sk, sq, sn, sa, sb⟩] = true
    · have hy : y = 0 := by
        unfold textR at hT
        rw [if_pos hf] at hT
        exact (Prod.mk.inj hT).2.symm
      have hv2 : (allB (L ++ [⟨sk, sq, sn, sa, sb⟩]) && momB m) = true := by
        rw [all_last _ _ (by rw [HLE.out]; omega), hf]
        simpa using hv
      rw [atL_yes hv2, cond_last, hR1c] at hR3
      have hz : z = 0 := (Prod.mk.inj hR3).2.symm
      have hD : stepC m ⟨c0, c1, c2, c3, c4, c5⟩ ⟨sk, sq, sn, sa, sb⟩ = ⟨d0, d1, d2, d3, d4, d5⟩ := congrArg Prod.fst hR3
      have hfm : formB ⟨sk, sq, sn, sa, sb⟩ = true := by
        unfold allB at hf
        simpa using hf
      have hfc := form_cases hfm
      simp only at hfc
      subst hy hz
      have HIF := hid (fun w => inForce_any ⟨sk, sq, sn, sa, sb⟩ m w)
      simp only [Sp.v, Sp.cells] at HIF
      clear hR1 hR3 hT hf hfm hv hv2 hR1c
      have qe := cd_eql ⟨d0, d1, d2, d3, d4, d5⟩ ⟨d0, d1, d2, d3, d4, d5⟩
      rw [decide_eq_true rfl] at qe
      simp only [Cd.v, Cd.cells] at qe
      have hzn2 : ba ≠ zb := hzn.symm
      have hxs0 : wc.cell? ⟨xb, 0, none⟩ = some (.int .i64 sk) := hx'.cell 0
      have hxs1 : wc.cell? ⟨xb, 1, none⟩ = some (.int .i64 sq) := hx'.cell 1
      have hxs2 : wc.cell? ⟨xb, 2, none⟩ = some (.int .i64 sn) := hx'.cell 2
      have hxs3 : wc.cell? ⟨xb, 3, none⟩ = some (.int .i64 sa) := hx'.cell 3
      have hxs4 : wc.cell? ⟨xb, 4, none⟩ = some (.int .i64 sb) := hx'.cell 4
      go_wp2_with fail
      refine (HIF.out _).mono ?_
      rintro e w7 ⟨rfl, hB7⟩
      have hx7 := hx'.below hB7 hx'.lt
      have ha7 := ha'.below hB7 ha'.lt
      have hz7 := hzb.below hB7 hzb.lt
      have hB8 := bthen hB' hB7
      clear HIF hxs0 hxs1 hxs2 hxs3 hxs4 hx' ha' hzb hB' hB7
      unfold stepC at hD
      simp only at hD
      generalize inR m sa sb = r at *
      cases r with
      | false =>
        simp only [Bool.false_eq_true, if_false, Cd.mk.injEq] at hD
        obtain ⟨rfl, rfl, rfl, rfl, rfl, rfl⟩ := hD
        have y0 : w7.cell? ⟨ba, 0, none⟩ = some (.int .i64 c0) := ha7.cell 0
        have y1 : w7.cell? ⟨ba, 1, none⟩ = some (.int .i64 c1) := ha7.cell 1
        have y2 : w7.cell? ⟨ba, 2, none⟩ = some (.int .i64 c2) := ha7.cell 2
        have y3 : w7.cell? ⟨ba, 3, none⟩ = some (.int .i64 c3) := ha7.cell 3
        have y4 : w7.cell? ⟨ba, 4, none⟩ = some (.int .i64 c4) := ha7.cell 4
        have y5 : w7.cell? ⟨ba, 5, none⟩ = some (.bool c5) := ha7.cell 5
        have z0 : w7.cell? ⟨zb, 0, none⟩ = some (.int .i64 c0) := hz7.cell 0
        have z1 : w7.cell? ⟨zb, 1, none⟩ = some (.int .i64 c1) := hz7.cell 1
        have z2 : w7.cell? ⟨zb, 2, none⟩ = some (.int .i64 c2) := hz7.cell 2
        have z3 : w7.cell? ⟨zb, 3, none⟩ = some (.int .i64 c3) := hz7.cell 3
        have z4 : w7.cell? ⟨zb, 4, none⟩ = some (.int .i64 c4) := hz7.cell 4
        have z5 : w7.cell? ⟨zb, 5, none⟩ = some (.bool c5) := hz7.cell 5
        go_wp2_with fail
        go_ret
        exact ⟨by first | rfl | simp, hB8⟩
      | true =>
        simp only [if_true] at hD
        have y0 : w7.cell? ⟨ba, 0, none⟩ = some (.int .i64 c0) := ha7.cell 0
        have y1 : w7.cell? ⟨ba, 1, none⟩ = some (.int .i64 c1) := ha7.cell 1
        have y2 : w7.cell? ⟨ba, 2, none⟩ = some (.int .i64 c2) := ha7.cell 2
        have y3 : w7.cell? ⟨ba, 3, none⟩ = some (.int .i64 c3) := ha7.cell 3
        have y4 : w7.cell? ⟨ba, 4, none⟩ = some (.int .i64 c4) := ha7.cell 4
        have y5 : w7.cell? ⟨ba, 5, none⟩ = some (.bool c5) := ha7.cell 5
        have f0 := ha7.free 0
        have f1 := ha7.free 1
        have f2 := ha7.free 2
        have f3 := ha7.free 3
        have f4 := ha7.free 4
        have f5 := ha7.free 5
        have z0 : w7.cell? ⟨zb, 0, none⟩ = some (.int .i64 d0) := hz7.cell 0
        have z1 : w7.cell? ⟨zb, 1, none⟩ = some (.int .i64 d1) := hz7.cell 1
        have z2 : w7.cell? ⟨zb, 2, none⟩ = some (.int .i64 d2) := hz7.cell 2
        have z3 : w7.cell? ⟨zb, 3, none⟩ = some (.int .i64 d3) := hz7.cell 3
        have z4 : w7.cell? ⟨zb, 4, none⟩ = some (.int .i64 d4) := hz7.cell 4
        have z5 : w7.cell? ⟨zb, 5, none⟩ = some (.bool d5) := hz7.cell 5
        have x0 : w7.cell? ⟨xb, 0, none⟩ = some (.int .i64 sk) := hx7.cell 0
        have x1 : w7.cell? ⟨xb, 1, none⟩ = some (.int .i64 sq) := hx7.cell 1
        have x2 : w7.cell? ⟨xb, 2, none⟩ = some (.int .i64 sn) := hx7.cell 2
        have x3 : w7.cell? ⟨xb, 3, none⟩ = some (.int .i64 sa) := hx7.cell 3
        have x4 : w7.cell? ⟨xb, 4, none⟩ = some (.int .i64 sb) := hx7.cell 4
        rcases hfc with ⟨rfl, hq⟩ | rfl | rfl
        · obtain ⟨j, rfl⟩ : ∃ j : Nat, sq = j := ⟨sq.toNat, by omega⟩
          have hj4 : (j : Int) < 4 := by omega
          have hj3 : (j : Int) ≤ 3 := by omega
          have hj0 : (0 : Int) ≤ (j : Int) := by omega
          have fj := ha7.free j
          obtain ⟨vj, yj⟩ : ∃ v, w7.cell? ⟨ba, j, none⟩ = some v := by
            have hq2 : j = 0 ∨ j = 1 ∨ j = 2 ∨ j = 3 := by omega
            rcases hq2 with rfl | rfl | rfl | rfl
            · exact ⟨_, y0⟩
            · exact ⟨_, y1⟩
            · exact ⟨_, y2⟩
            · exact ⟨_, y3⟩
          have hmj : (min (j : Int) 3).toNat = j := by omega
          go_upto_region 17 with fail
          (try rw [hmj])
          clear hmj
          have hq2 : j = 0 ∨ j = 1 ∨ j = 2 ∨ j = 3 := by omega
          clear hq hj4 hj3 hj0
          rcases hq2 with rfl | rfl | rfl | rfl
          · have hD' : (⟨sn, c1, c2, c3, c4, c5⟩ : Cd) = ⟨d0, d1, d2, d3, d4, d5⟩ := hD
            clear hD
            simp only [Cd.mk.injEq] at hD'
            obtain ⟨rfl, rfl, rfl, rfl, rfl, rfl⟩ := hD'
            have ha9 := ha7.set 0 (.int .i64 sn)
            have hz9 := hz7.other ⟨ba, 0, none⟩ hzn (.int .i64 sn)
            have hB9 := hB8.setCell (p := ⟨ba, 0, none⟩) hba (.int .i64 sn)
            clear ha7 hz7 hB8 hx7 y0 y1 y2 y3 y4 y5 z0 z1 z2 z3 z4 z5 x0 x1 x2 x3 x4 f0 f1 f2 f3 f4 f5 yj fj
            generalize w7.setCell ⟨ba, 0, none⟩ (.int .i64 sn) = w9 at *
            have u0 : w9.cell? ⟨ba, 0, none⟩ = some (.int .i64 sn) := ha9.cell 0
            have u1 : w9.cell? ⟨ba, 1, none⟩ = some (.int .i64 c1) := ha9.cell 1
            have u2 : w9.cell? ⟨ba, 2, none⟩ = some (.int .i64 c2) := ha9.cell 2
            have u3 : w9.cell? ⟨ba, 3, none⟩ = some (.int .i64 c3) := ha9.cell 3
            have u4 : w9.cell? ⟨ba, 4, none⟩ = some (.int .i64 c4) := ha9.cell 4
            have u5 : w9.cell? ⟨ba, 5, none⟩ = some (.bool c5) := ha9.cell 5
            have v0 := hz9.cell 0
            have v1 := hz9.cell 1
            have v2 := hz9.cell 2
            have v3 := hz9.cell 3
            have v4 := hz9.cell 4
            have v5 := hz9.cell 5
            simp only [List.getElem?_cons_succ, List.getElem?_cons_zero] at v0 v1 v2 v3 v4 v5
            go_wp2_with fail
            go_ret
            exact ⟨by first | rfl | simp, hB9⟩
          · have hD' : (⟨c0, sn, c2, c3, c4, c5⟩ : Cd) = ⟨d0, d1, d2, d3, d4, d5⟩ := hD
            clear hD
            simp only [Cd.mk.injEq] at hD'
            obtain ⟨rfl, rfl, rfl, rfl, rfl, rfl⟩ := hD'
            have ha9 := ha7.set 1 (.int .i64 sn)
            have hz9 := hz7.other ⟨ba, 1, none⟩ hzn (.int .i64 sn)
            have hB9 := hB8.setCell (p := ⟨ba, 1, none⟩) hba (.int .i64 sn)
            clear ha7 hz7 hB8 hx7 y0 y1 y2 y3 y4 y5 z0 z1 z2 z3 z4 z5 x0 x1 x2 x3 x4 f0 f1 f2 f3 f4 f5 yj fj
            generalize w7.setCell ⟨ba, 1, none⟩ (.int .i64 sn) = w9 at *
            have u0 : w9.cell? ⟨ba, 0, none⟩ = some (.int .i64 c0) := ha9.cell 0
            have u1 : w9.cell? ⟨ba, 1, none⟩ = some (.int .i64 sn) := ha9.cell 1
            have u2 : w9.cell? ⟨ba, 2, none⟩ = some (.int .i64 c2) := ha9.cell 2
            have u3 : w9.cell? ⟨ba, 3, none⟩ = some (.int .i64 c3) := ha9.cell 3
            have u4 : w9.cell? ⟨ba, 4, none⟩ = some (.int .i64 c4) := ha9.cell 4
            have u5 : w9.cell? ⟨ba, 5, none⟩ = some (.bool c5) := ha9.cell 5
            have v0 := hz9.cell 0
            have v1 := hz9.cell 1
            have v2 := hz9.cell 2
            have v3 := hz9.cell 3
            have v4 := hz9.cell 4
            have v5 := hz9.cell 5
            simp only [List.getElem?_cons_succ, List.getElem?_cons_zero] at v0 v1 v2 v3 v4 v5
            go_wp2_with fail
            go_ret
            exact ⟨by first | rfl | simp, hB9⟩
          · have hD' : (⟨c0, c1, sn, c3, c4, c5⟩ : Cd) = ⟨d0, d1, d2, d3, d4, d5⟩ := hD
            clear hD
            simp only [Cd.mk.injEq] at hD'
            obtain ⟨rfl, rfl, rfl, rfl, rfl, rfl⟩ := hD'
            have ha9 := ha7.set 2 (.int .i64 sn)
            have hz9 := hz7.other ⟨ba, 2, none⟩ hzn (.int .i64 sn)
            have hB9 := hB8.setCell (p := ⟨ba, 2, none⟩) hba (.int .i64 sn)
            clear ha7 hz7 hB8 hx7 y0 y1 y2 y3 y4 y5 z0 z1 z2 z3 z4 z5 x0 x1 x2 x3 x4 f0 f1 f2 f3 f4 f5 yj fj
            generalize w7.setCell ⟨ba, 2, none⟩ (.int .i64 sn) = w9 at *
            have u0 : w9.cell? ⟨ba, 0, none⟩ = some (.int .i64 c0) := ha9.cell 0
            have u1 : w9.cell? ⟨ba, 1, none⟩ = some (.int .i64 c1) := ha9.cell 1
            have u2 : w9.cell? ⟨ba, 2, none⟩ = some (.int .i64 sn) := ha9.cell 2
            have u3 : w9.cell? ⟨ba, 3, none⟩ = some (.int .i64 c3) := ha9.cell 3
            have u4 : w9.cell? ⟨ba, 4, none⟩ = some (.int .i64 c4) := ha9.cell 4
            have u5 : w9.cell? ⟨ba, 5, none⟩ = some (.bool c5) := ha9.cell 5
            have v0 := hz9.cell 0
            have v1 := hz9.cell 1
            have v2 := hz9.cell 2
            have v3 := hz9.cell 3
            have v4 := hz9.cell 4
            have v5 := hz9.cell 5
            simp only [List.getElem?_cons_succ, List.getElem?_cons_zero] at v0 v1 v2 v3 v4 v5
            go_wp2_with fail
            go_ret
            exact ⟨by first | rfl | simp, hB9⟩
          · have hD' : (⟨c0, c1, c2, sn, c4, c5⟩ : Cd) = ⟨d0, d1, d2, d3, d4, d5⟩ := hD
            clear hD
            simp only [Cd.mk.injEq] at hD'
            obtain ⟨rfl, rfl, rfl, rfl, rfl, rfl⟩ := hD'
            have ha9 := ha7.set 3 (.int .i64 sn)
            have hz9 := hz7.other ⟨ba, 3, none⟩ hzn (.int .i64 sn)
            have hB9 := hB8.setCell (p := ⟨ba, 3, none⟩) hba (.int .i64 sn)
            clear ha7 hz7 hB8 hx7 y0 y1 y2 y3 y4 y5 z0 z1 z2 z3 z4 z5 x0 x1 x2 x3 x4 f0 f1 f2 f3 f4 f5 yj fj
            generalize w7.setCell ⟨ba, 3, none⟩ (.int .i64 sn) = w9 at *
            have u0 : w9.cell? ⟨ba, 0, none⟩ = some (.int .i64 c0) := ha9.cell 0
            have u1 : w9.cell? ⟨ba, 1, none⟩ = some (.int .i64 c1) := ha9.cell 1
            have u2 : w9.cell? ⟨ba, 2, none⟩ = some (.int .i64 c2) := ha9.cell 2
            have u3 : w9.cell? ⟨ba, 3, none⟩ = some (.int .i64 sn) := ha9.cell 3
            have u4 : w9.cell? ⟨ba, 4, none⟩ = some (.int .i64 c4) := ha9.cell 4
            have u5 : w9.cell? ⟨ba, 5, none⟩ = some (.bool c5) := ha9.cell 5
            have v0 := hz9.cell 0
            have v1 := hz9.cell 1
            have v2 := hz9.cell 2
            have v3 := hz9.cell 3
            have v4 := hz9.cell 4
            have v5 := hz9.cell 5
            simp only [List.getElem?_cons_succ, List.getElem?_cons_zero] at v0 v1 v2 v3 v4 v5
            go_wp2_with fail
            go_ret
            exact ⟨by first | rfl | simp, hB9⟩
        all_goals
          simp only [Cd.mk.injEq] at hD
          obtain ⟨rfl, rfl, rfl, rfl, rfl, rfl⟩ := hD
          go_wp2_with fail
          go_ret
          exact ⟨by first | rfl | simp, hB8.setCell (p := ⟨ba, _, none⟩) hba _⟩
    · have hy : y = 1 := by
        unfold textR at hT
        rw [if_neg hf] at hT
        exact (Prod.mk.inj hT).2.symm
      have hv2 : ¬ (allB (L ++ [⟨sk, sq, sn, sa, sb⟩]) && momB m) = true := by
        rw [all_last _ _ (by rw [HLE.out]; omega)]
        simp [hf]
      rw [atL_no hv2] at hR3
      have hz : z = 1 := (Prod.mk.inj hR3).2.symm
      subst hy hz
      clear hR1 hR3 hT hf hv hv2 hR1c
      go_wp2_with fail
      go_ret
      exact ⟨by first | rfl | simp, hB'⟩
  · rw [atL_no hv] at hR1
    obtain ⟨_, rfl⟩ := Prod.mk.inj hR1
    have hv2 : ¬ (allB (L ++ [⟨sk, sq, sn, sa, sb⟩]) && momB m) = true := by
      rw [all_last _ _ (by rw [HLE.out]; omega)]
      intro q
      apply hv
      simp only [Bool.and_eq_true] at q ⊢
      exact ⟨q.1.1, q.2⟩
    rw [atL_no hv2] at hR3
    have hz : z = 1 := (Prod.mk.inj hR3).2.symm
    subst hz
    clear hR1 hR3 hT hv hv2
    go_wp2_with fail
    go_ret
    exact ⟨by first | rfl | simp, hB'⟩
end Go.Proofs.YtbkheiilcfhfpaaDoor
