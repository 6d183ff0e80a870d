/- retract: judge's closure -/
import Derived.Test.YtgkgpfennlkcnaaDoorRetRead
import Derived.Test.YtgkgpfennlkcnaaDoorQueA
import Derived.Deep.LoopGhost
namespace Go.Proofs.YtgkgpfennlkcnaaDoor
open Go.RowKit

def bools (l : List Bool) : List Value := l.map Value.bool
/-- one entry more that is supported -/
def stepS (gone sup : List Bool) (q : List Nat) (i : Nat) : List Bool × List Nat := if (gone.getD i false || sup.getD i false) = true then (sup, q) else (sup.set i true, q ++ [i])
theorem stepS_len (gone sup : List Bool) (q : List Nat) (i : Nat) : (stepS gone sup q i).1.length = sup.length := by unfold stepS; split <;> simp
def SupPost (sb Q1 B : Nat) (r : List Bool × List Nat) (w : World) (e : Ending) (w' : World) : Prop :=
  e = .returned (.tuple #[]) ∧ Blk w' sb 4 (bools r.1) ∧ (∃ v', Blk w' Q1 55 [v'] ∧ Que w' B 3 v' (natsV r.2)) ∧ Chg (fun k => k = sb ∨ k = Q1 ∨ B ≤ k) w w'
theorem bools_get {l : List Bool} {i : Nat} (h : i < l.length) : (bools l)[i]? = some (.bool (l.getD i false)) := by
  unfold bools
  rw [List.getElem?_map, List.getElem?_eq_getElem h, List.getD, List.getElem?_eq_getElem h]; rfl
theorem bools_set (l : List Bool) (i : Nat) (b : Bool) : (bools l).set i (.bool b) = bools (l.set i b) := by unfold bools; rw [List.map_set]
theorem natsV_len (l : List Nat) : (natsV l).length = l.length := by simp [natsV]
theorem natsV_app (l m : List Nat) : natsV (l ++ m) = natsV l ++ natsV m := by simp [natsV]
theorem Tryd.ulInt1 : Tryd.prog.underlying 55 = some (.slice 3) := by kernel_rfl
theorem Tryd.inInt1 : (Tryd.prog.info? 3).map (fun i => (i.zero, i.size, i.bytes)) = some (some (.int .i64 0), 1, 8) := by kernel_rfl
set_option maxHeartbeats 2000000 in
set_option maxRecDepth 100000 in
theorem sup1_any (i n G1 gb S1 sb Q1 B : Nat) (gone sup : List Bool) (v : Value) (q : List Nat) (w : World) (hG1 : Blk w G1 26 [.slice (some ⟨gb, 0, none⟩) n n]) (hgb : Blk w gb 4 (bools gone)) (hS1 : Blk w S1 26 [.slice (some ⟨sb, 0, none⟩) n n]) (hsb : Blk w sb 4 (bools sup))
    (hQ1 : Blk w Q1 55 [v]) (hq : Que w B 3 v (natsV q)) (hgl : gone.length = n) (hsl : sup.length = n) (hi : i < n) (hn : n ≤ 1000) (hql : q.length ≤ 100000)
    (d1 : sb ≠ S1) (d2 : sb ≠ Q1) (d3 : sb ≠ gb) (d4 : sb ≠ G1) (hBQ : Q1 < B) (hBs : sb < B) (hB : B ≤ w.heap.size) :
    Calls Tryd.prog 34 #[.int .i64 (i : Nat), .pointer (some ⟨G1, 0, none⟩), .pointer (some ⟨S1, 0, none⟩), .pointer (some ⟨Q1, 0, none⟩)] w (SupPost sb Q1 B (stepS gone sup q i) w) := by
  have a1 := hG1.cell 0
  have a2 := hgb.cell i
  have a3 := hS1.cell 0
  have a4 := hsb.cell i
  have f4 := hsb.free i
  have a5 := hQ1.cell 0
  have f5 := hQ1.free 0
  rw [bools_get (by omega)] at a2 a4
  simp only [List.getElem?_cons_zero] at a1 a3 a5
  have hiI : (i : Int) < (n : Int) := by omega
  unfold stepS
  obtain ⟨g, hg⟩ : ∃ g, gone.getD i false = g := ⟨_, rfl⟩
  obtain ⟨s, hs⟩ : ∃ g, sup.getD i false = g := ⟨_, rfl⟩
  rw [hg] at a2
  rw [hs] at a4
  rw [hg, hs]
  clear hg hs
  cases g with
  | true =>
    rw [if_pos (by simp)]
    go_enter Tryd.func34, Tryd.ntmps34
    go_wp2_with fail
    go_end0
    exact ⟨rfl, hsb, ⟨v, hQ1, hq⟩, Chg.refl _ _⟩
  | false =>
    cases s with
    | true =>
      rw [if_pos (by simp)]
      go_enter Tryd.func34, Tryd.ntmps34
      go_wp2_with fail
      go_end0
      exact ⟨rfl, hsb, ⟨v, hQ1, hq⟩, Chg.refl _ _⟩
    | false =>
      rw [if_neg (by simp)]
      have hl1 : (natsV q).length + 1 ≤ maxLen := by rw [natsV_len]; unfold maxLen; omega
      have hl2 : ((natsV q).length + 1) * 8 ≤ 140737488355328 := by rw [natsV_len]; omega
      clear hG1 hsl hgl
      go_enter Tryd.func34, Tryd.ntmps34
      go_upto_region 2 with fail
      have hcS : Chg (fun k => k = sb) w (w.setCell ⟨sb, i, none⟩ (.bool true)) := (Chg.refl (fun k => k = sb) w).set (p := ⟨sb, i, none⟩) rfl _
      replace hsb := hsb.set i (.bool true)
      rw [bools_set] at hsb
      replace hQ1 := hQ1.chg hcS d2.symm
      replace hq := hq.chg hcS (fun k hk e => by have := (hq.lt k hk).1; omega)
      replace hB : B ≤ (w.setCell ⟨sb, i, none⟩ (.bool true)).heap.size := by have := hcS.size; omega
      have hcT : Chg (fun k => k = sb ∨ k = Q1 ∨ B ≤ k) w (w.setCell ⟨sb, i, none⟩ (.bool true)) := hcS.mono (fun _ _ h => .inl h)
      clear a1 a2 a3 a4 a5 f4 f5 hcS hgb hS1
      generalize w.setCell ⟨sb, i, none⟩ (.bool true) = w1 at *
      have a5 := hQ1.cell 0
      simp only [List.getElem?_cons_zero] at a5
      have hQB : some Q1 ≠ v.ownBlock := fun e => by have := (hq.lt Q1 e.symm).1; omega
      have HQ := hid hq
      have HQ1 := hid hQ1
      have HSB := hid hsb
      clear hq hQ1 hsb
      go_wp2_with (at_builtin; refine wpl_appQ rfl _ _ 55 rfl 3 _ _ Tryd.ulInt1 Tryd.inInt1 rfl B v (natsV q) HQ.out hB rfl _ rfl rfl hl1 hl2 ?_; intro v' w' hq' hc'; obtain ⟨ao', cap', rfl⟩ := hq'.shape; rw [List.length_append, List.length_cons, List.length_nil] at hq'; have hQ2 := HQ1.out.chg hc' (by omega); have f6 := hQ2.free 0; have a6 := hQ2.cell 0)
      go_end0
      have hcQ : Chg (fun k => k = Q1) w' (w'.setCell ⟨Q1, 0, none⟩ (.slice ao' ((natsV q).length + 1) cap')) := (Chg.refl (fun k => k = Q1) w').set (p := ⟨Q1, 0, none⟩) rfl _
      refine ⟨rfl, (HSB.out.chg hc' (by omega)).chg hcQ d2, ⟨_, hQ2.set 0 _, ?_⟩, ?_⟩
      · rw [natsV_app]
        exact hq'.chg hcQ (fun k hk e => by have := (hq'.lt k hk).1; omega)
      · exact hcT.trans ((hc'.mono (fun _ _ h => .inr (.inr h))).trans (hcQ.mono (fun _ _ h => .inr (.inl h))))
end Go.Proofs.YtgkgpfennlkcnaaDoor
