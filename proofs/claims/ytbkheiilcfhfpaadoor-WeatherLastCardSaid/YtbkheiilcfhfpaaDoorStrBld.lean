/- strings.Builder: copyCheck, WriteString (the walks of the kit's shelf, turned to this dump) -/
import Derived.Test.YtbkheiilcfhfpaaDoorStrLib
import Derived.Test.YtbkheiilcfhfpaaDoorLib2
import Derived.Lib.Builder
import Derived.Lib.AppendStr
import Derived.Lib.OthersKept
import Derived.Laws.Externs
namespace Go.Proofs.YtbkheiilcfhfpaaDoor
open Go.RowKit

theorem Tryd.sizeBld : (Tryd.prog.info? 77).map (·.size) = some 2 := by kernel_rfl
set_option maxHeartbeats 1000000 in
theorem bld_used (b : Nat) (w : World) (h0 : w.cell? ⟨b, 0, none⟩ = some (.pointer (some ⟨b, 0, none⟩))) :
    Calls Tryd.prog 54 #[.pointer (some ⟨b, 0, none⟩)] w fun e w' => e = .returned (.tuple #[]) ∧ w' = w := by
  obtain ⟨j, hj, _⟩ := Option.map_eq_some_iff.1 Tryd.sizeBld
  have hneq := Lib.run_neq_ptr_same (P := Tryd.prog) (tp := 74) w ⟨b, 0, none⟩ Tryd.underlying74 hj
  go_enter Tryd.func54, Tryd.ntmps54
  go_wp2_with fail
  go_end0
  exact ⟨rfl, rfl⟩
set_option maxRecDepth 100000 in
set_option maxHeartbeats 1000000 in
theorem bld_fresh (b : Nat) (w : World) (h0 : w.cell? ⟨b, 0, none⟩ = some (.pointer none)) (hsh : w.shape? b = some (77, 2)) (hfz : w.frozen? ⟨b, 0, none⟩ = false) :
    Calls Tryd.prog 54 #[.pointer (some ⟨b, 0, none⟩)] w fun e w' => e = .returned (.tuple #[]) ∧ w' = w.setCell ⟨b, 0, none⟩ (.pointer (some ⟨b, 0, none⟩)) := by
  obtain ⟨j, hj, hjs⟩ := Option.map_eq_some_iff.1 Tryd.sizeBld
  go_enter Tryd.func54, Tryd.ntmps54
  go_wp2_with fail
  rw [Lib.run_to_unsafe w ⟨b, 0, none⟩ Tryd.underlying74 Tryd.underlying105 hj (by rw [hjs]; decide) hsh (Nat.zero_lt_succ 1)]
  simp only [Result.andThen]
  rw [Oper.upon_value]
  go_wp2_with fail
  rw [run_callFunc_extern Tryd.func67 (by kernel_rfl) (by kernel_rfl) (by kernel_rfl) (e := Extern.AbiNoEscape.same) (by kernel_rfl)]
  rw [Lib.run_noEscape]
  simp only [Result.andThen]
  rw [Oper.upon_value]
  go_wp2_with fail
  rw [Lib.run_from_unsafe w ⟨b, 0, none⟩ Tryd.underlying105 Tryd.underlying74 hj hsh (by kernel_rfl)]
  simp only [Result.andThen]
  rw [Oper.upon_value]
  go_wp2_with fail
  go_end0
  exact ⟨rfl, rfl⟩
theorem own_kind {w : World} {B : Nat} {e : TypeId} {v : Value} {n : Nat} {xs : List Value} (h : w.ownsRow B e 1 v n xs) : ∀ g, v.ownBlock = some g → ∃ c fz, w.heap[g]? = some (.cells c e fz) := by
  intro g hg
  rcases h.2 with ⟨rfl, _⟩ | ⟨g', cap, cur, rfl, _, hgg, _⟩
  · simp [Value.ownBlock] at hg
  · simp [Value.ownBlock] at hg
    subst hg
    exact ⟨cur, _, hgg⟩
theorem bld_check (B b : Nat) (bs : List Value) (w : World) (h : Lib.IsBuilder 77 5 B b bs w) :
    Calls Tryd.prog 54 #[.pointer (some ⟨b, 0, none⟩)] w fun e w' => e = .returned (.tuple #[]) ∧ (Lib.BuilderAt 77 5 B b (.pointer (some ⟨b, 0, none⟩)) bs w' ∧ Below B w w' ∧ Lib.OthersKept 5 (some b) w w') := by
  rcases h with h | h
  · refine (bld_fresh b w h.cell0 h.shape h.frozen0).mono ?_
    rintro e w' ⟨rfl, rfl⟩
    exact ⟨rfl, h.used _, (Below.refl B w).setCell (p := ⟨b, 0, none⟩) h.1 _, (Lib.OthersKept.refl _ _ _).setCell ⟨b, 0, none⟩ rfl _⟩
  · refine (bld_used b w h.cell0).mono ?_
    rintro e w' ⟨rfl, rfl⟩
    exact ⟨rfl, h, Below.refl B _, Lib.OthersKept.refl _ _ _⟩
theorem Tryd.infoByte : (Tryd.prog.info? 5).map (fun i => (i.zero, i.size, i.bytes)) = some (some (.int .u8 0), 1, 1) := by kernel_rfl
set_option maxHeartbeats 2000000 in
set_option maxRecDepth 100000 in
theorem bld_write (B b : Nat) (bs : List Value) (s : ByteArray) (w : World) (h : Lib.IsBuilder 77 5 B b bs w) (hlen : bs.length + s.size ≤ 140737488355328) (hBw : B ≤ w.heap.size) :
    Calls Tryd.prog 36 #[.pointer (some ⟨b, 0, none⟩), .string s] w fun e w' => e = .returned (.tuple #[.int .i64 s.size, .nilIface]) ∧ (Lib.BuilderAt 77 5 B b (.pointer (some ⟨b, 0, none⟩)) (bs ++ Lib.strCells s) w' ∧ Below B w w' ∧ Lib.OthersKept 5 (some b) w w') := by
  obtain ⟨i0, hi, hz0, hz1, hz2⟩ := info_parts Tryd.infoByte
  go_enter Tryd.func36, Tryd.ntmps36
  go_wp2_with fail
  refine (bld_check B b bs _ h).mono ?_
  rintro e w1 ⟨rfl, h1, hb1, hK⟩
  obtain ⟨hB, v, hbk, hown, hne⟩ := h1
  have c0 : w1.cell? ⟨b, 0, none⟩ = some (.pointer (some ⟨b, 0, none⟩)) := by rw [Lib.cell_of_heap hbk]; rfl
  have c1 : w1.cell? ⟨b, 1, none⟩ = some v := by rw [Lib.cell_of_heap hbk]; rfl
  go_wp2_with (at_builtin; refine Lib.wpList_append_own_string _ rfl _ _ 75 9 rfl B 5 i0 Tryd.underlying75 Tryd.underlying9 hi hz0 hz1 hz2 _ _ _ rfl hown s rfl ?c3 ?c4 ?c5 ?_)
  case c3 => unfold maxLen; omega
  case c4 => omega
  case c5 => have := hb1.size; omega
  intro v' w2 hown' hgrow _
  have hlt : b < w1.heap.size := by
    rcases Nat.lt_or_ge b w1.heap.size with h' | h'
    · exact h'
    · simp [Array.getElem?_eq_none h'] at hbk
  have hb2 : w2.heap[b]? = some (.cells #[.pointer (some ⟨b, 0, none⟩), v] 77 (0, 0)) := by
    rw [hgrow.block b hlt (fun e => hne e.symm)]
    exact hbk
  have d0 : w2.cell? ⟨b, 0, none⟩ = some (.pointer (some ⟨b, 0, none⟩)) := by rw [Lib.cell_of_heap hb2]; rfl
  have d1 : w2.cell? ⟨b, 1, none⟩ = some v := by rw [Lib.cell_of_heap hb2]; rfl
  have f1 : w2.frozen? ⟨b, 1, none⟩ = false := Lib.frozen_of_heap hb2 1
  obtain ⟨ao, n', cap, rfl⟩ : ∃ ao n' cap, v' = .slice ao n' cap := by
    rcases hown'.2 with ⟨hv, _⟩ | ⟨g, cap, cur, hv, _⟩
    · exact ⟨_, _, _, hv⟩
    · exact ⟨_, _, _, hv⟩
  go_wp2_with fail
  go_ret2
  refine ⟨rfl, ?_, ?_, ?_⟩
  · exact Lib.BuilderAt.put (T := 77) (e := 5) hB hb2 (bs' := bs ++ Lib.strCells s) (by simpa [Lib.strCells_length] using hown') (by decide)
  · exact (hb1.grown hgrow (by have := hb1.size; omega) (fun k hk => (hown.lt k hk).1)).setCell (p := ⟨b, 1, none⟩) hB _
  · exact (hK.grown hgrow (fun g hg => own_kind hown g hg)).setCell ⟨b, 1, none⟩ rfl _
/-- a builder that holds these bytes -/
def BS (w : World) (b : Nat) (l : List UInt8) : Prop := Lib.IsBuilder 77 5 b b (Lib.byteCells l) w
theorem BuilderAt.below {T e : TypeId} {B b : Nat} {p : Value} {bs : List Value} {w w' : World} (h : Lib.BuilderAt T e B b p bs w) (hB : Below w.heap.size w w') : Lib.BuilderAt T e B b p bs w' := by
  obtain ⟨h1, v, hb, hown, hne⟩ := h
  exact ⟨h1, v, (hB.block b (Array.getElem?_eq_some_iff.1 hb).1).trans hb, ownsRow_chg hown ((Chg.refl (fun _ => False) w).below hB (fun k h1 h2 => by omega)) (fun _ _ h => h), hne⟩
theorem BS.below {w w' : World} {b : Nat} {l : List UInt8} (h : BS w b l) (hB : Below w.heap.size w w') : BS w' b l := by
  rcases h with h | h
  · exact .inl (BuilderAt.below h hB)
  · exact .inr (BuilderAt.below h hB)
theorem BS.lt {w : World} {b : Nat} {l : List UInt8} (h : BS w b l) : b < w.heap.size := by
  rcases h with h | h <;> exact h.lt
theorem BS.new (w : World) : BS (w.alloc (.cells #[.pointer none, .slice none 0 0] 77)) w.heap.size [] := Lib.fresh_isBuilder _ _ w
theorem byteCells_app (l m : List UInt8) : Lib.byteCells (l ++ m) = Lib.byteCells l ++ Lib.byteCells m := by simp [Lib.byteCells]
theorem byteCells_len (l : List UInt8) : (Lib.byteCells l).length = l.length := by simp [Lib.byteCells]
/-- what a write leaves: the builder, and every other block that is no row of bytes -/
structure BW (w w' : World) (b : Nat) (l : List UInt8) : Prop where
  bld : BS w' b l
  below : Below b w w'
  kept : Lib.OthersKept 5 (some b) w w'
theorem write_any (b : Nat) (l t : List UInt8) (w : World) (h : BS w b l) (hlen : l.length + t.length ≤ 1000000000) :
    Calls Tryd.prog 36 #[.pointer (some ⟨b, 0, none⟩), .string ⟨t.toArray⟩] w fun e w' => e = .returned (.tuple #[.int .i64 (t.length : Nat), .nilIface]) ∧ BW w w' b (l ++ t) := by
  refine (bld_write b b (Lib.byteCells l) ⟨t.toArray⟩ w h ?_ (Nat.le_of_lt h.lt)).mono ?_
  · rw [byteCells_len]; show l.length + t.toArray.size ≤ _; simp; omega
  · rintro e w' ⟨rfl, h1, h2, h3⟩
    refine ⟨rfl, .inr ?_, h2, h3⟩
    rw [byteCells_app]
    exact h1
theorem write_str (b : Nat) (l : List UInt8) (s : ByteArray) (w : World) (h : BS w b l) (hlen : l.length + s.data.toList.length ≤ 1000000000) :
    Calls Tryd.prog 36 #[.pointer (some ⟨b, 0, none⟩), .string s] w fun e w' => (∃ n, e = .returned (.tuple #[.int .i64 n, .nilIface])) ∧ BW w w' b (l ++ s.data.toList) := by
  refine (write_any b l s.data.toList w h hlen).mono ?_
  rintro e w' ⟨rfl, hW⟩
  exact ⟨⟨_, rfl⟩, hW⟩
theorem Blk.others {w w' : World} {b k : Nat} {T : TypeId} {L : List Value} (h : Blk w k T L) (hk : Lib.OthersKept 5 (some b) w w') (hb : k ≠ b) (hT : T ≠ 5) : Blk w' k T L :=
  hk k _ h (fun e => hb (Option.some.inj e)) (fun c fz e => by cases e; exact hT rfl)
theorem SlV.others {w w' : World} {b : Nat} {T : TypeId} {L : List Value} {ao : Option Addr} (h : SlV w ao L) (hk : Lib.OthersKept 5 (some b) w w') (hB : Below b w w') (hT : ∀ g off, ao = some ⟨g, off, none⟩ → g < b ∨ ∃ cs, Blk w g T cs ∧ g ≠ b) (hne : T ≠ 5) : SlV w' ao L :=
  ⟨h.len, fun i x hi => by
    obtain ⟨g, off, e, hg, hx⟩ := h.cell i x hi
    refine ⟨g, off, e, Nat.lt_of_lt_of_le hg hB.size, ?_⟩
    rw [← hx]
    rcases hT g off e with h1 | ⟨cs, h1, h2⟩
    · exact hB.cell h1
    · exact World.cell?_of_block (w := w) ((Blk.others h1 hk h2 hne).trans (show w.heap[g]? = _ from h1).symm)⟩
end Go.Proofs.YtbkheiilcfhfpaaDoor
