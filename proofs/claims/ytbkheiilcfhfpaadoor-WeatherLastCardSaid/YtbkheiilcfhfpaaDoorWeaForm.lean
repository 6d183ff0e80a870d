/- weather: formed, all -/
import Derived.Test.YtbkheiilcfhfpaaDoorWeaKinds
import Derived.Deep.RegionWith
import Derived.Laws.EntriesVeiled
import Derived.Deep.RegionHeld
import Derived.Deep.CutRange
namespace Go.Proofs.YtbkheiilcfhfpaaDoor
open Go.RowKit

/-- a spell -/
structure Sp where
  k : Int
  q : Int
  n : Int
  a : Int
  b : Int
deriving DecidableEq
def Sp.cells (s : Sp) : List Value := [.int .i64 s.k, .int .i64 s.q, .int .i64 s.n, .int .i64 s.a, .int .i64 s.b]
def Sp.v (s : Sp) : Value := .agg s.cells.toArray
def valK (s : Sp) : Bool := match s.k with
  | 1 => inR s.q 0 3 && inR s.n 0 1000
  | 2 => s.q == 0 && inR s.n 1 100
  | 3 => s.q == 0 && s.n == 0
  | _ => false
def formB (s : Sp) : Bool := isK s.k && momB s.a && momB s.b && decide (s.a ≤ s.b) && valK s
theorem sp_world (k q n a b : Int) (w : World) : ∃ w0 : World, (w.alloc (.cells #[.int .i64 k, .int .i64 q, .int .i64 n, .int .i64 a, .int .i64 b] 32)) = w0 ∧ Blk w0 w.heap.size 32 [.int .i64 k, .int .i64 q, .int .i64 n, .int .i64 a, .int .i64 b] ∧ Below w.heap.size w w0 :=
  ⟨_, rfl, Blk.new w _ _, below_alloc w _⟩
theorem val_cloud (k q n a b : Int) (w : World) : Calls Tryd.prog 46 #[.agg #[.int .i64 k, .int .i64 q, .int .i64 n, .int .i64 a, .int .i64 b]] w fun e w' => e = .returned (.bool (inR q 0 3 && inR n 0 1000)) ∧ Below w.heap.size w w' := by
  have H1 := hid (fun w => within_any q 0 3 w)
  have H2 := hid (fun w => within_any n 0 1000 w)
  generalize inR q 0 3 = b1 at *
  generalize inR n 0 1000 = b2 at *
  cases b1
  all_goals
    go_enter Tryd.func46, Tryd.ntmps46
    go_wp2_with fail
    refine (H1.out _).mono ?_
    rintro e w' ⟨rfl, rfl⟩
    go_wp2_with fail
  · go_ret
    exact ⟨rfl, below_alloc w _⟩
  · refine (H2.out _).mono ?_
    rintro e w' ⟨rfl, rfl⟩
    go_wp2_with fail
    go_ret
    exact ⟨rfl, below_alloc w _⟩
theorem val_seeing (k q n a b : Int) (w : World) : Calls Tryd.prog 48 #[.agg #[.int .i64 k, .int .i64 q, .int .i64 n, .int .i64 a, .int .i64 b]] w fun e w' => e = .returned (.bool (q == 0 && inR n 1 100)) ∧ Below w.heap.size w w' := by
  have H2 := hid (fun w => within_any n 1 100 w)
  generalize inR n 1 100 = b2 at *
  generalize hb1 : (q == 0) = b1 at *
  cases b1
  all_goals
    go_enter Tryd.func48, Tryd.ntmps48
    go_wp2_with fail
  · go_ret
    exact ⟨rfl, below_alloc w _⟩
  · refine (H2.out _).mono ?_
    rintro e w' ⟨rfl, rfl⟩
    go_wp2_with fail
    go_ret
    exact ⟨rfl, below_alloc w _⟩
theorem val_closed (k q n a b : Int) (w : World) : Calls Tryd.prog 50 #[.agg #[.int .i64 k, .int .i64 q, .int .i64 n, .int .i64 a, .int .i64 b]] w fun e w' => e = .returned (.bool (q == 0 && n == 0)) ∧ Below w.heap.size w w' := by
  generalize hb1 : (q == 0) = b1 at *
  generalize hb2 : (n == 0) = b2 at *
  cases b1
  all_goals
    go_enter Tryd.func50, Tryd.ntmps50
    go_wp2_with fail
    go_ret
    exact ⟨ret_bool (by first | rfl | (simp [hb2])), below_alloc w _⟩
def kw (n : Int) : ByteArray := match n with
  | 1 => ⟨#[99, 108, 111, 117, 100]⟩
  | 2 => ⟨#[115, 101, 101, 105, 110, 103]⟩
  | 3 => ⟨#[99, 108, 111, 115, 101, 100]⟩
  | _ => ⟨#[]⟩
def kA (n : Int) : Nat := if n = 1 then 45 else if n = 2 then 47 else 49
def kB (n : Int) : Nat := if n = 1 then 46 else if n = 2 then 48 else 50
theorem kB_1 : kB 1 = 46 := rfl
theorem kB_2 : kB 2 = 48 := rfl
theorem kB_3 : kB 3 = 50 := rfl
theorem isK_iff {n : Int} : isK n = true ↔ n = 1 ∨ n = 2 ∨ n = 3 := by simp [isK, or_assoc]
theorem kv_yes {n : Int} (h : isK n = true) : kv n = .agg #[.string (kw n), .func (Fn.func (kA n)) #[] #[], .func (Fn.func (kB n)) #[] #[]] := by
  rcases isK_iff.1 h with rfl | rfl | rfl <;> rfl
theorem kv_no {n : Int} (h : isK n = false) : kv n = .agg #[.string ⟨#[]⟩, .nilFunc, .nilFunc] := by
  simp only [isK, Bool.or_eq_false_iff, beq_eq_false_iff_ne] at h
  exact kv_other h.1.1 h.1.2 h.2
theorem look3 (w0 : World) (k : Int) :
    ((Instr.lookup 60 (.map (some w0.heap.size)) (.int .i64 k) true).run Tryd.prog (w0.alloc (.map kEs 3)).drew = .ok (.tuple #[kv k, .bool (isK k)]) (w0.alloc (.map kEs 3)).drew) ∧
    (∀ o : Obj, (Instr.lookup 60 (.map (some w0.heap.size)) (.int .i64 k) true).run Tryd.prog ((w0.alloc (.map kEs 3)).alloc o).drew = .ok (.tuple #[kv k, .bool (isK k)]) ((w0.alloc (.map kEs 3)).alloc o).drew) ∧
    (∀ o : Obj, (Instr.lookup 60 (.map (some (w0.heap.size + 1))) (.int .i64 k) true).run Tryd.prog ((w0.alloc o).alloc (.map kEs 3)).drew = .ok (.tuple #[kv k, .bool (isK k)]) ((w0.alloc o).alloc (.map kEs 3)).drew) := by
  refine ⟨look_ok k (heap_alloc_new w0 _), fun o => look_ok k ?_, fun o => look_ok k ?_⟩
  · show ((w0.alloc (.map kEs 3)).alloc o).heap[_]? = _
    rw [heap_alloc_old _ _ (by show _ < (w0.heap.push _).size; simp)]; exact heap_alloc_new w0 _
  · show ((w0.alloc o).alloc (.map kEs 3)).heap[_]? = _
    rw [show w0.heap.size + 1 = (w0.alloc o).heap.size from by show _ = (w0.heap.push _).size; simp]
    exact heap_alloc_new _ _
theorem cell2 {w0 : World} {a : Addr} {v : Value} (h : w0.cell? a = some v) : (∀ o : Obj, (w0.alloc o).cell? a = some v) ∧ (∀ o o' : Obj, ((w0.alloc o).alloc o').cell? a = some v) := by
  have h1 : ∀ (u : World) (o : Obj), u.cell? a = some v → (u.alloc o).cell? a = some v := fun u o hu => (World.cell?_alloc_some u a o (by rw [hu]; rfl)).trans hu
  exact ⟨fun o => h1 _ o h, fun o o' => h1 _ o' (h1 _ o h)⟩
theorem val_any (k q n a b : Int) (w : World) (hk : isK k = true) : Calls Tryd.prog (kB k) #[.agg #[.int .i64 k, .int .i64 q, .int .i64 n, .int .i64 a, .int .i64 b]] w fun e w' => e = .returned (.bool (valK ⟨k, q, n, a, b⟩)) ∧ Below w.heap.size w w' := by
  rcases isK_iff.1 hk with rfl | rfl | rfl
  · exact val_cloud 1 q n a b w
  · exact val_seeing 2 q n a b w
  · exact val_closed 3 q n a b w
theorem blk_n1 (u : World) (o : Obj) (c : Array Value) (T : TypeId) : Blk ((u.alloc o).alloc (.cells c T)) (u.heap.size + 1) T c.toList := by
  have := Blk.new (u.alloc o) c T
  rwa [show (u.alloc o).heap.size = u.heap.size + 1 from by show (u.heap.push _).size = _; simp] at this
theorem blk_n2 (u : World) (o : Obj) (c : Array Value) (T : TypeId) : Blk ((u.alloc (.cells c T)).alloc o) u.heap.size T c.toList := (Blk.new u c T).alloc o
theorem below2 {n : Nat} {w u : World} (h : Below n w u) (hn : n ≤ u.heap.size) (o o' : Obj) : Below n w ((u.alloc o).alloc o') := by
  refine (h.alloc hn o).alloc ?_ o'
  show _ ≤ (u.heap.push _).size
  simp; omega
set_option maxRecDepth 100000 in
set_option maxHeartbeats 2000000 in
theorem formed_no (k q n a b : Int) (w : World) (hk : isK k = false) : Calls Tryd.prog 30 #[.agg #[.int .i64 k, .int .i64 q, .int .i64 n, .int .i64 a, .int .i64 b]] w fun e w' => e = .returned (.bool false) ∧ Below w.heap.size w w' := by
  have HK := hid (fun w => kinds_is w)  ;go_enter Tryd.func30, Tryd.ntmps30  ;go_wp2_with fail  ;obtain ⟨w0, hw0, hx, hB⟩ := sp_world k q n a b w  ;rw [hw0]  ;clear hw0  ;have x0 := hx.cell 0  ;simp only [List.getElem?_cons_succ, List.getElem?_cons_zero] at x0  ;have hz := hB.size  ;obtain ⟨L1, L2, L3⟩ := look3 w0 k  ;obtain ⟨A1, A2⟩ := cell2 x0  ;go_upto_region 1 with fail
  rw [kv_no hk] at L1
  simp only [kv_no hk] at L2 L3
  go_cut [3, 4] from 5 to 11 (fun s3 s4 wx => s4 = .bool false ∧ Below w.heap.size w wx)
  case first =>
    clear hx
    go_region_with (refine (HK.out _).mono ?_; rintro e w' ⟨rfl, rfl⟩)
    all_goals
      go_wp2_with fail
      go_meet
      case rel => exact ⟨rfl, (below2 hB hz _ _).drew⟩
  case rest =>
    obtain ⟨rfl, hB⟩ := hcut
    go_wp2_with fail
    go_ret
    exact ⟨rfl, hB⟩
set_option maxRecDepth 100000 in
set_option maxHeartbeats 2000000 in
theorem formed_yes (k q n a b : Int) (w : World) (hk : isK k = true) : Calls Tryd.prog 30 #[.agg #[.int .i64 k, .int .i64 q, .int .i64 n, .int .i64 a, .int .i64 b]] w fun e w' => e = .returned (.bool (momB a && momB b && decide (a ≤ b) && valK ⟨k, q, n, a, b⟩)) ∧ Below w.heap.size w w' := by
  have HK := hid (fun w => kinds_is w)  ;go_enter Tryd.func30, Tryd.ntmps30  ;go_wp2_with fail  ;obtain ⟨w0, hw0, hx, hB⟩ := sp_world k q n a b w  ;rw [hw0]  ;clear hw0  ;have x0 := hx.cell 0  ;simp only [List.getElem?_cons_succ, List.getElem?_cons_zero] at x0  ;have hz := hB.size  ;obtain ⟨L1, L2, L3⟩ := look3 w0 k  ;obtain ⟨A1, A2⟩ := cell2 x0  ;go_upto_region 1 with fail
  rw [kv_yes hk] at L1
  simp only [kv_yes hk] at L2 L3
  go_cut [3, 4] from 5 to 11 (fun s3 s4 wx => ∃ kb, s3 = .pointer (some ⟨kb, 0, none⟩) ∧ s4 = .bool true ∧ Blk wx kb 65 [.string (kw k), .func (Fn.func (kA k)) #[] #[], .func (Fn.func (kB k)) #[] #[]] ∧ Blk wx w.heap.size 32 [.int .i64 k, .int .i64 q, .int .i64 n, .int .i64 a, .int .i64 b] ∧ Below w.heap.size w wx)
  case first =>
    go_region_with (refine (HK.out _).mono ?_; rintro e w' ⟨rfl, rfl⟩)
    all_goals
      go_wp2_with fail
      go_meet
      case rel => exact ⟨_, rfl, rfl, by first | exact blk_n1 _ _ _ _ | exact blk_n2 _ _ _ _, (hx.alloc _).alloc _, (below2 hB hz _ _).drew⟩
  case rest =>
    clear x0 A1 A2 L1 L2 L3 hz hB HK hx
    obtain ⟨kb, rfl, rfl, hy, hx, hB⟩ := hcut
    have x0 := hx.cell 0  ;have x1 := hx.cell 1  ;have x2 := hx.cell 2  ;have x3 := hx.cell 3  ;have x4 := hx.cell 4  ;simp only [List.getElem?_cons_succ, List.getElem?_cons_zero] at x0 x1 x2 x3 x4  ;have y2 := hy.cell 2  ;simp only [List.getElem?_cons_succ, List.getElem?_cons_zero] at y2
    have H1 := hid (fun w => moment_any a w)
    have H2 := hid (fun w => moment_any b w)
    generalize hm1 : momB a = m1 at *
    generalize hm2 : momB b = m2 at *
    have E1 := hid hm1
    have E2 := hid hm2
    clear hm1 hm2
    generalize hab : decide (a ≤ b) = m3
    have E3 := hid hab
    clear hx hy
    cases m1
    · go_wp2_with fail
      refine (H1.out _).mono ?_
      rintro e w' ⟨rfl, rfl⟩
      go_wp2_with fail
      go_ret  ;exact ⟨ret_bool (by first | rfl | (simp [E1.out]; done) | (simp [E1.out, E2.out]; done) | simp [E1.out, E2.out, E3.out]), hB⟩
    · cases m2
      · go_wp2_with fail
        refine (H1.out _).mono ?_
        rintro e w' ⟨rfl, rfl⟩
        go_wp2_with fail
        refine (H2.out _).mono ?_
        rintro e w' ⟨rfl, rfl⟩
        go_wp2_with fail
        go_ret  ;exact ⟨ret_bool (by first | rfl | (simp [E1.out]; done) | (simp [E1.out, E2.out]; done) | simp [E1.out, E2.out, E3.out]), hB⟩
      · cases m3
        · have hab' := of_decide_eq_false hab
          go_wp2_with fail
          refine (H1.out _).mono ?_
          rintro e w' ⟨rfl, rfl⟩
          go_wp2_with fail
          refine (H2.out _).mono ?_
          rintro e w' ⟨rfl, rfl⟩
          go_wp2_with fail
          go_ret  ;exact ⟨ret_bool (by first | rfl | (simp [E1.out]; done) | (simp [E1.out, E2.out]; done) | simp [E1.out, E2.out, E3.out]), hB⟩
        · have hab' := of_decide_eq_true hab
          rcases isK_iff.1 hk with rfl | rfl | rfl
          all_goals
            clear hk
            simp only [kB_1, kB_2, kB_3] at y2
            go_wp2_with fail
            refine (H1.out _).mono ?_
            rintro e w' ⟨rfl, rfl⟩
            go_wp2_with fail
            refine (H2.out _).mono ?_
            rintro e w' ⟨rfl, rfl⟩
            go_wp2_with fail
          · refine (val_cloud 1 q n a b _).mono ?_
            rintro e w' ⟨rfl, hB2⟩  ;replace hB := hB.trans (hB2.mono hB.size)  ;go_wp2_with fail  ;go_ret  ;exact ⟨ret_bool (by first | rfl | (simp [E1.out, E2.out, valK]; done) | (simp [E1.out, E2.out, E3.out, valK])), hB⟩
          · refine (val_seeing 2 q n a b _).mono ?_
            rintro e w' ⟨rfl, hB2⟩  ;replace hB := hB.trans (hB2.mono hB.size)  ;go_wp2_with fail  ;go_ret  ;exact ⟨ret_bool (by first | rfl | (simp [E1.out, E2.out, valK]; done) | (simp [E1.out, E2.out, E3.out, valK])), hB⟩
          · refine (val_closed 3 q n a b _).mono ?_
            rintro e w' ⟨rfl, hB2⟩  ;replace hB := hB.trans (hB2.mono hB.size)  ;go_wp2_with fail  ;go_ret  ;exact ⟨ret_bool (by first | rfl | (simp [E1.out, E2.out, valK]; done) | (simp [E1.out, E2.out, E3.out, valK])), hB⟩
/-- the contract of formed -/
theorem formed_any (s : Sp) (w : World) : Calls Tryd.prog 30 #[s.v] w fun e w' => e = .returned (.bool (formB s)) ∧ Below w.heap.size w w' := by
  obtain ⟨k, q, n, a, b⟩ := s
  unfold formB
  cases hk : isK k
  · exact formed_no k q n a b w hk
  · exact formed_yes k q n a b w hk
end Go.Proofs.YtbkheiilcfhfpaaDoor
