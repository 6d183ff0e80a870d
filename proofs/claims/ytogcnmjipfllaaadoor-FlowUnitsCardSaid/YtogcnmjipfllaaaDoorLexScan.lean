/- lexer: the scanner's small methods -/
import Derived.Test.YtogcnmjipfllaaaDoorLexCls
import Derived.Test.YtogcnmjipfllaaaDoorLib2
import Derived.Test.YtogcnmjipfllaaaDoorShelf
namespace Go.Proofs.YtogcnmjipfllaaaDoor
open Go.RowKit

/-- a scanner in its block -/
def Scan (w : World) (sb : Nat) (s : ByteArray) : Prop := Blk w sb 86 (.string s :: clsCells)
theorem Scan.text {w : World} {sb : Nat} {s : ByteArray} (h : Scan w sb s) : w.cell? ⟨sb, 0, none⟩ = some (.string s) := h.cell 0
theorem Scan.cls {w : World} {sb : Nat} {s : ByteArray} (h : Scan w sb s) (b : UInt8) : w.cell? ⟨sb, 1 + b.toNat, none⟩ = some (.int .i64 (cls b)) := by
  rw [Blk.cell h, Nat.add_comm]; exact clsCells_get b
theorem at_any (w : World) (sb : Nat) (s : ByteArray) (i : Nat) (h : Scan w sb s) (hs : s.size ≤ 1000000) (hi : i ≤ 1000000) :
    Calls Tryd.prog 49 #[.pointer (some ⟨sb, 0, none⟩), .int .i64 i] w fun e w' => e = .returned (.int .i64 (atC s.data.toList i)) ∧ Chg (fun _ => False) w w' := by
  have htx := h.text
  by_cases hlt : i < s.size
  · obtain ⟨b, hx⟩ : ∃ b, s[i]'hlt = b := ⟨_, rfl⟩
    have hcl := h.cls b
    have hat : atC s.data.toList i = cls b := atC_some (by rw [← hx]; exact Lib.data_getElem? s i hlt)
    rw [hat]
    have hbl := b.toNat_lt
    have hI : ¬ (s.size : Int) ≤ (i : Int) := by omega
    clear hat
    go_enter Tryd.func49, Tryd.ntmps49
    go_wp2
    refine wp_region_quiet_all (by kernel_rfl) (by kernel_rfl) ?_; (repeat (go_big_quiet_step (fail)))
    refine wpQuiet_end ?_
    go_wp2
    go_ret
    exact ⟨rfl, (Chg.refl _ w).drew⟩
  · have hat : atC s.data.toList i = 0 := atC_none (by rw [← Lib.size_eq]; omega)
    rw [hat]
    have hI : (s.size : Int) ≤ (i : Int) := by omega
    clear hat
    go_enter Tryd.func49, Tryd.ntmps49
    go_wp2
    go_ret
    exact ⟨rfl, Chg.refl _ _⟩

/-- slices.Index over ints that can be read -/
theorem contains_any (ao : Option Addr) (cap n : Nat) (cs : List Nat) (v : Nat) (w : World) (hn : cs.length = n) (h : SlV w ao (cs.map fun c => Value.int .i64 (c : Nat))) (hl : cs.length ≤ 1000) (hv : v ≤ 9) (hc : ∀ c ∈ cs, c ≤ 9) :
    Calls Tryd.prog 74 #[.slice ao n cap, .int .i64 v] w fun e w' => ∃ i : Int, e = .returned (.int .i64 i) ∧ (0 ≤ i ↔ cs.contains v = true) ∧ -1 ≤ i ∧ Chg (fun _ => False) w w' := by
  subst hn
  go_enter Tryd.func74, Tryd.ntmps74
  go_wp2
  go_loopw [8] (fun s8 wr => ∃ k : Nat, s8 = .int .i64 k ∧ k ≤ cs.length ∧ wr = w ∧ ∀ j, j < k → cs[j]? ≠ some v) (fun s8 _ => cs.length - (intOf s8).toNat)
  case atStart => exact ⟨0, rfl, by omega, rfl, fun j hj => by omega⟩
  case round =>
    obtain ⟨k, rfl, hk, rfl, hno⟩ := hrel
    have HN := hid hno
    clear hno
    by_cases hlt : k < cs.length
    · obtain ⟨c, hcg⟩ : ∃ c, cs[k]? = some c := ⟨_, List.getElem?_eq_getElem hlt⟩
      obtain ⟨b, off, rfl, hb, hx⟩ := h.cell k (.int .i64 (c : Nat)) (by simp [hcg])
      have hI : (k : Int) < (cs.length : Int) := by omega
      have hc9 := hc c (List.mem_of_getElem? hcg)
      have HC := hid hcg
      clear hcg
      cases he : ((v : Int) == (c : Int)) with
      | true =>
        have HE := hid he
        go_wp2
        go_ret
        refine ⟨_, rfl, ?_, by omega, Chg.refl _ _⟩
        have hvc : v = c := by have := HE.out; simp at this; omega
        constructor
        · intro _; rw [hvc]; simpa using List.mem_of_getElem? HC.out
        · intro _; omega
      | false =>
        have HE := hid he
        go_wp2
        go_roundw
        case rel =>
          refine ⟨k + 1, by go_num, by omega, trivial, fun j hj => ?_⟩
          by_cases e : j = k
          · subst e; rw [HC.out]; intro h; cases h; simpa using HE.out
          · exact HN.out j (by omega)
        case measure => simp [intOf] <;> omega
    · have hI : ¬ (k : Int) < (cs.length : Int) := by omega
      go_wp2
      go_ret
      refine ⟨_, rfl, ?_, by omega, Chg.refl _ _⟩
      constructor
      · intro h; omega
      · intro h
        have hm : v ∈ cs := by simpa using h
        obtain ⟨j, hj⟩ := List.getElem?_of_mem hm
        exact absurd hj (HN.out j (by have := (List.getElem?_eq_some_iff.1 hj).1; omega))
theorem contains_yes (ao : Option Addr) (cap n : Nat) (cs : List Nat) (v : Nat) (w : World) (hn : cs.length = n) (h : SlV w ao (cs.map fun c => Value.int .i64 (c : Nat))) (hl : cs.length ≤ 1000) (hv : v ≤ 9) (hc : ∀ c ∈ cs, c ≤ 9) :
    Calls Tryd.prog 60 #[.slice ao n cap, .int .i64 v] w fun e w' => e = .returned (.bool (cs.contains v)) ∧ Chg (fun _ => False) w w' := by
  have HI := hid (contains_any ao cap n cs v w hn h hl hv hc)
  cases hcv : cs.contains v with
  | true =>
    rw [hcv] at HI
    go_enter Tryd.func60, Tryd.ntmps60
    go_wp2_with fail
    refine HI.out.mono ?_
    rintro e w' ⟨i, rfl, hi, hi1, hch⟩
    have hi0 : 0 ≤ i := hi.2 (by first | trivial | rfl)
    clear hi
    go_wp2_with fail
    go_ret
    exact ⟨ret_bool (by first | rfl | (simp [*])), hch⟩
  | false =>
    rw [hcv] at HI
    go_enter Tryd.func60, Tryd.ntmps60
    go_wp2_with fail
    refine HI.out.mono ?_
    rintro e w' ⟨i, rfl, hi, hi1, hch⟩
    have hi0 : ¬ 0 ≤ i := fun h => by have := hi.1 h; cases this
    clear hi
    go_wp2_with fail
    go_ret
    exact ⟨ret_bool (by first | rfl | (simp; omega) | (simp [*])), hch⟩

theorem chg_below {w w' : World} {S : Nat → Prop} (h : Chg (fun _ => False) w w') : Chg S w w' := h.mono (fun _ _ h => h.elim)
set_option maxHeartbeats 1000000 in
set_option maxRecDepth 100000 in
theorem while_any (w : World) (sb : Nat) (s : ByteArray) (i n : Nat) (ao : Option Addr) (cap : Nat) (cs : List Nat) (h : Scan w sb s) (hs : s.size ≤ 1000000) (hi : i ≤ s.size) (hn : cs.length = n)
    (hsl : SlV w ao (cs.map fun c => Value.int .i64 (c : Nat))) (hl : cs.length ≤ 1000) (hc : ∀ c ∈ cs, c ≤ 9) :
    Calls Tryd.prog 48 #[.pointer (some ⟨sb, 0, none⟩), .int .i64 i, .slice ao n cap] w fun e w' => e = .returned (.int .i64 ((i + spanC cs (s.data.toList.drop i) : Nat) : Int)) ∧ Chg (fun _ => False) w w' := by
  go_enter Tryd.func48, Tryd.ntmps48
  go_wp2
  go_loopw [1] (fun s1 wr => ∃ k : Nat, s1 = .int .i64 k ∧ k ≤ s.size ∧ k + spanC cs (s.data.toList.drop k) = i + spanC cs (s.data.toList.drop i) ∧ Chg (fun _ => False) w wr) (fun s1 _ => s.size - (intOf s1).toNat)
  case atStart => exact ⟨i, rfl, hi, rfl, Chg.refl _ _⟩
  case round =>
    obtain ⟨k, rfl, hk, hsp, hch⟩ := hrel
    have hscan : Scan wr sb s := Blk.chg h hch (fun h => h)
    have htx := hscan.text
    have Hsp := hid hsp
    clear hsp
    have HZ := hid (Lib.size_eq s)
    by_cases hlt : k < s.size
    · have hI : (k : Int) < (s.size : Int) := by omega
      have ha := hid (at_any wr sb s k hscan hs (by omega))
      have hle := atC_le s.data.toList k
      obtain ⟨ac, hac⟩ : ∃ ac, atC s.data.toList k = ac := ⟨_, rfl⟩
      have HAC := hid hac
      rw [hac] at ha hle
      clear hac
      cases hcv : cs.contains ac with
      | true =>
        have HCV := hid hcv
        go_wp2_with fail
        refine ha.out.mono ?_
        rintro e w2 ⟨rfl, hch2⟩
        go_wp2_with fail
        refine (contains_yes ao cap n cs ac _ hn (hsl.chg (hch.trans hch2) (fun _ _ _ _ h => h)) hl hle hc).mono ?_
        rintro e w3 ⟨rfl, hch3⟩
        rw [hcv]
        go_wp2_with fail
        go_roundw
        case rel =>
          refine ⟨k + 1, by go_num, by omega, ?_, (hch.trans hch2).trans hch3⟩
          have hst := spanC_step (cs := cs) (l := s.data.toList) (k := k) (by have := HZ.out; omega) (by rw [HAC.out]; exact HCV.out)
          have := Hsp.out
          omega
        case measure => simp [intOf] <;> omega
      | false =>
        have HCV := hid hcv
        go_wp2_with fail
        refine ha.out.mono ?_
        rintro e w2 ⟨rfl, hch2⟩
        go_wp2_with fail
        refine (contains_yes ao cap n cs ac _ hn (hsl.chg (hch.trans hch2) (fun _ _ _ _ h => h)) hl hle hc).mono ?_
        rintro e w3 ⟨rfl, hch3⟩
        rw [hcv]
        go_wp2_with fail
        go_ret
        refine ⟨ret_int ?_, (hch.trans hch2).trans hch3⟩
        have hst := spanC_stop (cs := cs) (l := s.data.toList) (k := k) (.inr (by rw [HAC.out]; exact HCV.out))
        have := Hsp.out
        omega
    · have hI : ¬ (k : Int) < (s.size : Int) := by omega
      go_wp2_with fail
      go_ret
      refine ⟨ret_int ?_, hch⟩
      have hst := spanC_stop (cs := cs) (l := s.data.toList) (k := k) (.inl (by have := HZ.out; omega))
      have := Hsp.out
      omega

theorem while_at (w : World) (sb : Nat) (s : ByteArray) (x : Int) (i n : Nat) (hx : x = (i : Int)) (ao : Option Addr) (cap : Nat) (cs : List Nat) (h : Scan w sb s) (hs : s.size ≤ 1000000) (hi : i ≤ s.size) (hn : cs.length = n)
    (hsl : SlV w ao (cs.map fun c => Value.int .i64 (c : Nat))) (hl : cs.length ≤ 1000) (hc : ∀ c ∈ cs, c ≤ 9) :
    Calls Tryd.prog 48 #[.pointer (some ⟨sb, 0, none⟩), .int .i64 x, .slice ao n cap] w fun e w' => e = .returned (.int .i64 ((i + spanC cs (s.data.toList.drop i) : Nat) : Int)) ∧ Chg (fun _ => False) w w' := by
  subst hx; exact while_any w sb s i n ao cap cs h hs hi hn hsl hl hc
theorem slv1 (w : World) (T : TypeId) (c : Nat) : SlV (w.alloc (.cells #[Value.int .i64 (c : Nat)] T)) (some ⟨w.heap.size, 0, none⟩) ([c].map fun c => Value.int .i64 (c : Nat)) :=
  ⟨by simp [maxLen], fun i x hi => ⟨w.heap.size, 0, rfl, by simp, by rw [World.cell?_alloc_at _ _ _ _ rfl]; simpa using hi⟩⟩
theorem spanC_blank_end (l : List UInt8) (k : Nat) : atC l (k + spanC [1] (l.drop k)) ≠ 1 := by
  intro h
  rw [← atC_drop] at h
  unfold atC at h
  split at h
  · rename_i b hb
    have := spanC_end hb
    rw [h] at this; simp at this
  · omega
theorem idx35 (l : List UInt8) (h : atC l 0 = 2) : Lib.indexByte l 10 ≠ 0 := by
  cases l with
  | nil => simp [Lib.indexByte]
  | cons b l =>
    rw [atC_some (b := b) rfl] at h
    obtain rfl := (cls_two b).1 h
    have := Lib.indexByte_ge l 10
    simp only [Lib.indexByte]
    have e : ((35 : UInt8) == 10) = false := by decide
    rw [e]
    simp only [Bool.false_eq_true, if_false]
    split
    · decide
    · rename_i h1; have : Lib.indexByte l 10 ≠ -1 := by simpa using h1
      omega
theorem indexByte_lt (l : List UInt8) (c : UInt8) : Lib.indexByte l c < (l.length : Int) := by rw [← Lib.indexAny_one]; exact indexAny_lt [c] l
theorem drop_size (s : ByteArray) (i : Nat) (h : i ≤ s.size) : (⟨(s.data.toList.drop i).toArray⟩ : ByteArray).size = s.size - i := by
  have := Lib.size_eq s
  show (s.data.toList.drop i).toArray.size = _
  simp
theorem drop_ext (s : ByteArray) (i : Nat) : s.extract i s.size = ⟨(s.data.toList.drop i).toArray⟩ := by
  have h : (s.extract i s.size).data.toList = s.data.toList.drop i := by
    simp only [ByteArray.data_extract, Array.toList_extract, List.extract_eq_take_drop]
    rw [List.take_of_length_le]
    have : s.data.toList.length = s.size := Array.length_toList
    rw [List.length_drop]; omega
  rcases hx : s.extract i s.size with ⟨d⟩
  rw [hx] at h
  congr 1
  rw [← h]

set_option maxHeartbeats 1000000 in
set_option maxRecDepth 100000 in
theorem gap_any (w : World) (sb : Nat) (s : ByteArray) (i : Nat) (h : Scan w sb s) (hs : s.size ≤ 1000000) (hi : i ≤ s.size) :
    Calls Tryd.prog 33 #[.pointer (some ⟨sb, 0, none⟩), .int .i64 i] w fun e w' => e = .returned (.int .i64 ((i + gapL false (s.data.toList.drop i) : Nat) : Int)) ∧ Below w.heap.size w w' := by
  go_enter Tryd.func33, Tryd.ntmps33
  go_wp2_with fail
  have HZ := hid (Lib.size_eq s)
  have hscan0 : Scan (w.alloc (.cells #[Value.int .i64 1] 3)) sb s := Blk.alloc h _
  refine (while_any _ sb s i 1 _ 1 [1] hscan0 hs hi rfl (slv1 w 3 1) (by simp) (by simp)).mono ?_
  rintro e w1 ⟨rfl, hch1⟩
  have hB1 : Below w.heap.size w w1 := (below_alloc w _).trans (hch1.toBelow (by simp) (fun _ h => h.elim))
  go_wp2_with fail
  go_loopw [1] (fun s1 wr => ∃ k : Nat, s1 = .int .i64 k ∧ k ≤ s.size ∧ k + gapL false (s.data.toList.drop k) = i + gapL false (s.data.toList.drop i) ∧ atC s.data.toList k ≠ 1 ∧ Below w.heap.size w wr) (fun s1 _ => s.size - (intOf s1).toNat)
  case atStart =>
    refine ⟨i + spanC [1] (s.data.toList.drop i), rfl, ?_, ?_, spanC_blank_end _ _, hB1⟩
    · have := spanC_le [1] (s.data.toList.drop i); rw [List.length_drop] at this; have := HZ.out; omega
    · have := gapL_blank (s.data.toList.drop i)
      rw [List.drop_drop] at this
      omega
  case round =>
    obtain ⟨k, rfl, hk, hgp, hn1, hB⟩ := hrel
    have hscan : Scan wr sb s := Blk.below h hB h.lt
    have htx := hscan.text
    have Hgp := hid hgp
    have HN1 := hid hn1
    clear hgp hn1
    have ha := hid (at_any wr sb s k hscan hs (by omega))
    have hle := atC_le s.data.toList k
    obtain ⟨ac, hac⟩ : ∃ ac, atC s.data.toList k = ac := ⟨_, rfl⟩
    rw [hac] at ha hle
    have HAC := hid hac
    clear hac
    cases h2 : ((ac : Int) == 2) with
    | true =>
      have hac2 : atC (s.data.toList.drop k) 0 = 2 := by rw [atC_drop, Nat.add_zero, HAC.out]; simp at h2; omega
      obtain ⟨g1, g2⟩ := gapL_hash hac2
      have g3 := idx35 _ hac2
      have g4 := Lib.indexByte_ge (s.data.toList.drop k) 10
      have g5 := indexByte_lt (s.data.toList.drop k) 10
      rw [List.length_drop, ← HZ.out] at g5
      obtain ⟨m, hm⟩ : ∃ m, Lib.indexByte (s.data.toList.drop k) 10 = m := ⟨_, rfl⟩
      have hix := fun w => Tryd.strings_IndexByte (s.extract k s.size) 10 w
      rw [drop_ext] at hix
      rw [show (10 : Int).toNat.toUInt8 = 10 from rfl] at hix
      rw [hm] at hix g1 g2 g3 g4 g5
      have HIX := hid hix
      have G1 := hid g1
      have G2 := hid g2
      clear hix g1 g2 hac2 hm
      have hI : (k : Int) ≤ (s.size : Int) := by omega
      go_wp2_with fail
      refine ha.out.mono ?_
      rintro e w2 ⟨rfl, hch2⟩
      have hB2 : Below w.heap.size w w2 := hB.trans ((hch2.toBelow (Nat.le_refl _) (fun _ h => h.elim)).mono hB.size)
      have hscan2 : Scan w2 sb s := Blk.below h hB2 h.lt
      have htx2 := hscan2.text
      clear htx
      go_wp2_with fail
      rw [drop_ext]
      refine (HIX.out _).mono ?_
      rintro e w' ⟨rfl, rfl⟩
      by_cases hm0 : m < 0
      · go_wp2_with fail
        go_ret
        refine ⟨ret_int ?_, hB2⟩
        rw [← Hgp.out, G1.out hm0, List.length_drop, ← HZ.out]
        push_cast
        omega
      · obtain ⟨n, rfl⟩ : ∃ n : Nat, m = n := ⟨m.toNat, by omega⟩
        have hscan3 : Scan (w'.alloc (Obj.cells #[Value.int .i64 1] 3)) sb s := Blk.alloc hscan2 _
        go_wp2_with fail
        refine (while_at _ sb s _ (k + n) 1 (by push_cast; rfl) _ 1 [1] hscan3 hs (by omega) rfl (slv1 w' 3 1) (by simp) (by simp)).mono ?_
        rintro e w3 ⟨rfl, hch3⟩
        have hB3 : Below w.heap.size w w3 := hB2.trans (((below_alloc w' _).trans (hch3.toBelow (by simp) (fun _ h => h.elim))).mono hB2.size)
        go_wp2_with fail
        go_roundw
        case rel =>
          refine ⟨k + n + spanC [1] (s.data.toList.drop (k + n)), by go_num, ?_, ?_, spanC_blank_end _ _, hB3⟩
          · have := spanC_le [1] (s.data.toList.drop (k + n)); rw [List.length_drop] at this; have := HZ.out; omega
          · have e1 := gapL_blank (s.data.toList.drop (k + n))
            rw [List.drop_drop] at e1
            have e2 := G2.out n rfl
            rw [List.drop_drop] at e2
            have := Hgp.out
            omega
        case measure => simp [intOf] <;> omega
    | false =>
      go_wp2_with fail
      refine ha.out.mono ?_
      rintro e w2 ⟨rfl, hch2⟩
      have hB2 : Below w.heap.size w w2 := hB.trans ((hch2.toBelow (Nat.le_refl _) (fun _ h => h.elim)).mono hB.size)
      go_wp2_with fail
      go_ret
      refine ⟨ret_int ?_, hB2⟩
      rw [← Hgp.out, gapL_stop]
      · rfl
      · rw [atC_drop]; exact HN1.out
      · rw [atC_drop, Nat.add_zero, HAC.out]; simp at h2; omega
end Go.Proofs.YtogcnmjipfllaaaDoor
