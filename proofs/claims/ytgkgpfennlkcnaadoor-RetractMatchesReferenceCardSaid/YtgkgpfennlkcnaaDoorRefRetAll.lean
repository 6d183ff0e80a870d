/- the reference's Lex · retract's reference: index, in, less, Identifier, Valid · retract's reference: Valid, Supported, Tainted · retract's reference: Supported, Tainted · In a region that draws its order: an append, at whatever world the order has come to (for a seat that has RetFur2; else StepN). · retract's reference: Because: the plain rounds, the table of chains · retract's reference: Because · RetractMatchesReference -/
import Derived.Test.YtgkgpfennlkcnaaDoorRefNext4
import Derived.Test.YtgkgpfennlkcnaaDoorLexWid
import Derived.Test.YtgkgpfennlkcnaaDoorRetAny2
import Derived.Test.YtgkgpfennlkcnaaDoorRetFur2
namespace Go.Proofs.YtgkgpfennlkcnaaDoor
open Go.RowKit

set_option maxHeartbeats 4000000 in
set_option maxRecDepth 100000 in
theorem rlex_any (s : ByteArray) (w : World) (hs : s.size ≤ 1000000) : Calls Tryd.prog 38 #[.string s] w (LexPost w s.data.toList) := by
  have HZ := hid (Lib.size_eq s)
  by_cases hbig : 20000 < s.size
  · have hI : 20000 < (s.size : Int) := by omega
    have hl : lexL s.data.toList = ([], 2, -1) := by unfold lexL; rw [if_pos (by have := HZ.out; omega)]
    have HL := hid hl
    clear hl
    go_enter Tryd.func38, Tryd.ntmps38
    go_wp2_with fail
    go_ret3
    refine ⟨_, by rw [HL.out]; rfl, ?_⟩
    rw [HL.out]
    exact MineN.start (Below.refl _ _) (Nat.le_refl _)
  · have hI : ¬ 20000 < (s.size : Int) := by omega
    have hl : lexL s.data.toList = lexF (s.data.toList.length + 1) 0 0 s.data.toList := by unfold lexL; rw [if_neg (by have := HZ.out; omega)]
    have HL := hid hl
    clear hl
    have hG0 := fun w => rgap_any s 0 w hs (Nat.zero_le _)
    rw [List.drop_zero, Nat.zero_add] at hG0
    have HG0 := hid (show ∀ w, Calls Tryd.prog 42 #[.string s, .int .i64 0] w fun e w' => e = .returned (.int .i64 ((gapL false s.data.toList : Nat) : Int)) ∧ w = w' from hG0)
    clear hG0
    go_enter Tryd.func38, Tryd.ntmps38
    go_wp2_with fail
    refine (HG0.out _).mono ?_
    rintro e w' ⟨rfl, rfl⟩
    go_wp2_with fail
    go_loopw [5, 6] (fun s5 s6 wr => ∃ (p k f : Nat) (ts : List Tok) (v : Value), v = s5 ∧ s6 = .int .i64 ((p + gapL false (s.data.toList.drop p) : Nat) : Int) ∧ p ≤ s.size ∧ k = ts.length ∧ k ≤ 5000 ∧ s.size - p < f ∧
        lexL s.data.toList = joinR ts (lexF f k p (s.data.toList.drop p)) ∧ MineN 4 w.heap.size w wr 68 v k (toksCells ts)) (fun _ s6 _ => s.size - (intOf s6).toNat)
    case atStart =>
      refine ⟨0, 0, s.data.toList.length + 1, [], _, rfl, by simp, by omega, rfl, by omega, by have := HZ.out; omega, ?_, MineN.start (Below.refl _ _) (Nat.le_refl _)⟩
      rw [HL.out, joinR_nil _ (lexF_err _ _ _ _)]; rfl
    case round =>
      obtain ⟨wo, hwo⟩ : ∃ wo : World, wo = wr := ⟨_, rfl⟩
      subst hwo
      obtain ⟨p, k, f, ts, v, rfl, rfl, hp, hkl, hk, hf, hlex, hm⟩ := hrel
      have HLEX := hid hlex
      have HKL := hid hkl
      have hgl := gapL_le false (s.data.toList.drop p)
      rw [List.length_drop, ← HZ.out] at hgl
      obtain ⟨i, hi⟩ : ∃ i, p + gapL false (s.data.toList.drop p) = i := ⟨_, rfl⟩
      have HI := hid hi
      rw [hi]
      clear hlex hkl hi
      obtain ⟨f, rfl⟩ : ∃ f', f = f' + 1 := ⟨f - 1, by omega⟩
      have hmb := hm.base
      by_cases hlt : i < s.size
      · have hIlt : (i : Int) < (s.size : Int) := by omega
        have HNX := hid (fun w => rnext_any s i w (by omega) hlt)
        cases htk : tok1 (s.data.toList.drop i) with
        | err e =>
          rw [htk] at HNX
          have he := tok1_err htk
          have HT := hid htk
          clear htk
          unfold RN tok0 at HNX
          dsimp only at HNX
          go_wp2_with fail
          refine (HNX.out _).mono ?_
          rintro en w4 ⟨rfl, hB4⟩
          go_wp2_with fail
          go_ret3
          have hr := HLEX.out
          have h1 : ¬ (s.data.toList.drop p).length ≤ gapL false (s.data.toList.drop p) := by rw [List.length_drop, ← HZ.out]; have := HI.out; omega
          rw [lexF, if_neg h1, List.drop_drop, HI.out, HT.out] at hr
          dsimp only at hr
          rw [joinR, if_neg (by dsimp only; omega)] at hr
          dsimp only at hr
          refine ⟨_, by rw [hr]; rfl, ?_⟩
          rw [hr]
          exact MineN.start ((hm.below.trans (hB4.mono hmb)).alloc (by have := hB4.size; omega) _) (by have := hB4.size; simp; omega)
        | tok kd t n wd =>
          rw [htk] at HNX
          have hne0 : s.data.toList.drop i ≠ [] := by intro e; have := congrArg List.length e; rw [List.length_drop, ← HZ.out] at this; simp at this; omega
          have hwd : widT ⟨kd, t, n, i⟩ = wd := by
            have := (tok1_stop hne0 htk).2.2.1
            rw [← this]
            unfold widT wrt; split <;> simp
          have HT := hid htk
          clear htk
          unfold RN tokV at HNX
          dsimp only at HNX
          obtain ⟨ao, cap, rfl⟩ := hm.shape
          have hr := HLEX.out
          have h1 : ¬ (s.data.toList.drop p).length ≤ gapL false (s.data.toList.drop p) := by rw [List.length_drop, ← HZ.out]; have := HI.out; omega
          rw [lexF, if_neg h1, List.drop_drop, HI.out, HT.out] at hr
          dsimp only at hr
          rw [List.drop_drop, show p + (gapL false (s.data.toList.drop p) + wd) = i + wd by have := HI.out; omega] at hr
          obtain ⟨b1, b2, b3, b4⟩ := tok1_bd hne0 HT.out
          rw [List.length_drop, ← HZ.out] at b2
          have HW := hid (fun w => width_any ⟨kd, t, n, i⟩ w (by show t.length ≤ _; omega))
          rw [hwd] at HW
          unfold tokW at HW
          dsimp only at HW
          have HR := hid hr
          clear hr HLEX hwd hne0
          cases h5 : ((k : Int) == 5000) with
          | true =>
            have h5' : k = 5000 := by simp at h5; omega
            have hr := HR.out
            rw [if_pos h5'] at hr
            clear h5'
            go_wp2_with fail
            refine (HNX.out _).mono ?_
            rintro en w4 ⟨rfl, hB4⟩
            go_wp2_with fail
            go_ret3
            rw [joinR, if_neg (by dsimp only; omega)] at hr
            dsimp only at hr
            refine ⟨_, by rw [hr]; rfl, ?_⟩
            rw [hr]
            exact MineN.start ((hm.below.trans (hB4.mono hmb)).alloc (by have := hB4.size; omega) _) (by have := hB4.size; simp; omega)
          | false =>
            have h5' : k ≠ 5000 := by simp at h5; omega
            have hr := HR.out
            rw [if_neg h5', joinR_join] at hr
            have HR2 := hid hr
            clear hr HR
            go_wp2_with fail
            refine (HNX.out _).mono ?_
            rintro en w4 ⟨rfl, hB4⟩
            have hB4s := hB4.size
            have hm4 : MineN 4 w.heap.size w (w4.alloc (.cells #[.int .i64 kd, .string ⟨t.toArray⟩, .int .i64 n, .int .i64 i] 68)) 68 (.slice ao k cap) k (toksCells ts) :=
              ⟨ownsRow_chgN hm.own (Chg.alloc (Chg.below (S := fun q => wo.heap.size ≤ q) (Chg.refl _ wo) hB4 (fun q _ h => h)) _) (fun q hq => by have := (hm.own.lt q hq).2; omega), (hm.below.trans (hB4.mono hmb)).alloc (by omega) _, by simp; omega⟩
            have htb := Blk.new w4 #[.int .i64 kd, .string ⟨t.toArray⟩, .int .i64 n, .int .i64 i] 68
            have hown : ∀ b, (Value.slice ao k cap).ownBlock = some b → b < w4.heap.size := fun b hb => by have := (hm.own.lt b hb).2; omega
            have hL1 : k + 1 ≤ maxLen := by unfold maxLen; omega
            have hL2 : (k + 1) * 40 ≤ 140737488355328 := by omega
            have HOW := hid hown
            clear hown
            go_wp2_with (at_builtin; refine wpl_appN rfl _ _ 64 rfl 68 _ 4 40 Tryd.underlying64 Tryd.infoTok rfl (by decide) _ _ _ _ _ hm4 rfl #[.int .i64 kd, .string ⟨t.toArray⟩, .int .i64 n, .int .i64 i] rfl (by simp [Value.oneCell']) (by rw [World.size_alloc]; rfl) hL1 hL2 ?_; intro g1 cap1 w5 hm5 hg5 hB5 hat5; have htb5 := Blk.grown htb hg5 (fun e => Nat.lt_irrefl _ (HOW.out _ e.symm)); have x0 : w5.cell? ⟨w4.heap.size, 0, none⟩ = some (.int .i64 kd) := htb5.cell 0; have x1 : w5.cell? ⟨w4.heap.size, 1, none⟩ = some (.string ⟨t.toArray⟩) := htb5.cell 1; have x2 : w5.cell? ⟨w4.heap.size, 2, none⟩ = some (.int .i64 n) := htb5.cell 2; have x3 : w5.cell? ⟨w4.heap.size, 3, none⟩ = some (.int .i64 i) := htb5.cell 3)
            clear x0 x1 x2 x3 htb5
            refine (HW.out _).mono ?_
            rintro en w6 ⟨rfl, hB6⟩
            have hgn := hid (rgap_any s (i + wd) w6 hs (by omega))
            push_cast at hgn
            go_wp2_with fail
            refine hgn.out.mono ?_
            rintro e w' ⟨rfl, rfl⟩
            go_wp2_with fail
            go_roundw
            case rel =>
              have hm6 : MineN 4 w.heap.size w w6 68 (.slice (some ⟨g1, 0, none⟩) (k + 1) cap1) (k + 1) (toksCells (ts ++ [⟨kd, t, n, i⟩])) :=
                ⟨by
                  have := ownsRow_chgN hm5.own (Chg.below (S := fun q => w5.heap.size ≤ q) (Chg.refl _ w5) hB6 (fun q _ h => h)) (fun q hq => by have := (hm5.own.lt q hq).2; omega)
                  simpa [toksCells, tokCells] using this, hm5.below.trans (hB6.mono hm5.base), Nat.le_trans hm5.base hB6.size⟩
              refine ⟨i + wd, k + 1, f, ts ++ [⟨kd, t, n, i⟩], _, rfl, by push_cast; rfl, by omega, by simp [HKL.out], by have := h5'; omega, by have := HI.out; omega, ?_, hm6⟩
              rw [HR2.out]
            case measure => simp [intOf]; have := HI.out; omega
      · have hIlt : ¬ (i : Int) < (s.size : Int) := by omega
        go_wp2_with fail
        go_ret3
        have he : lexF (f + 1) k p (s.data.toList.drop p) = ([], 0, 0) := by
          rw [lexF, if_pos]
          rw [List.length_drop, ← HZ.out]; have := HI.out; omega
        have hr := HLEX.out
        rw [he] at hr
        simp only [joinR, if_true, List.append_nil] at hr
        refine ⟨_, by rw [hr]; rfl, ?_⟩
        rw [hr]
        have := hm
        rw [HKL.out] at this
        exact this
end Go.Proofs.YtgkgpfennlkcnaaDoor
namespace Go.Proofs.YtgkgpfennlkcnaaDoor
open Go.RowKit

theorem rlex_any2 (s : ByteArray) (w : World) (hs : s.size ≤ 1000000) : Calls Tryd.prog 38 #[.string s] w fun e w' =>
    ∃ ao cap, e = .returned (.tuple #[.slice ao (lexL s.data.toList).1.length cap, .int .i64 (lexL s.data.toList).2.1, .int .i64 (lexL s.data.toList).2.2]) ∧ Toks w' ao (lexL s.data.toList).1 ∧ Below w.heap.size w w' := by
  refine (rlex_any s w hs).mono ?_
  rintro e w' ⟨v, rfl, hm⟩
  have hl := lexL_len s.data.toList
  obtain ⟨ao, cap, rfl, hsl, _⟩ := hm.slv (by rw [toksCells_len]; unfold maxLen; omega)
  exact ⟨ao, cap, rfl, hsl, hm.below⟩
set_option maxHeartbeats 1000000 in
set_option maxRecDepth 100000 in
theorem rident_any (s : ByteArray) (w : World) (hs : s.size ≤ 1000000) : Calls Tryd.prog 33 #[.string s] w fun e w' => e = .returned (.bool (idB s.data.toList)) ∧ Below w.heap.size w w' := by
  have HLX := hid (fun w => rlex_any2 s w hs)
  have hlen := lexL_len s.data.toList
  have hid' : idB s.data.toList = (decide ((lexL s.data.toList).2.1 = 0) && match (lexL s.data.toList).1 with | [t] => decide (t.k = 1) && decide (t.t = s.data.toList) | _ => false) := rfl
  generalize idB s.data.toList = R at *
  generalize (lexL s.data.toList).2.2 = pos at *
  generalize (lexL s.data.toList).2.1 = er at *
  generalize (lexL s.data.toList).1 = ts at *
  have HR := hid hid'
  clear hid'
  by_cases he : er = 0
  · subst he
    by_cases h1 : ts.length = 1
    · obtain ⟨t, rfl⟩ := List.length_eq_one_iff.1 h1
      clear h1
      cases hk : (t.k == 1) with
      | true =>
        have hk' := hid (show t.k = 1 by simpa using hk)
        go_enter Tryd.func33, Tryd.ntmps33
        go_wp2_with fail
        refine (HLX.out _).mono ?_
        rintro e w1 ⟨ao, cap, rfl, htk, hB1⟩
        obtain ⟨b, off, rfl, hb, c0, c1, _, _⟩ := htk.get (i := 0) (t := t) rfl
        simp only [Nat.mul_zero, Nat.zero_add, Nat.add_zero] at c0 c1
        go_wp2_with fail
        go_ret
        refine ⟨ret_bool ?_, hB1⟩
        rw [HR.out]
        simp [hk'.out, ByteArray.toList_eq]
        try rw [Bool.eq_iff_iff]; simp
      | false =>
        have hk' := hid (show ¬ t.k = 1 by simpa using hk)
        go_enter Tryd.func33, Tryd.ntmps33
        go_wp2_with fail
        refine (HLX.out _).mono ?_
        rintro e w1 ⟨ao, cap, rfl, htk, hB1⟩
        obtain ⟨b, off, rfl, hb, c0, c1, _, _⟩ := htk.get (i := 0) (t := t) rfl
        simp only [Nat.mul_zero, Nat.zero_add, Nat.add_zero] at c0 c1
        go_wp2_with fail
        go_ret
        refine ⟨ret_bool ?_, hB1⟩
        rw [HR.out]
        simp [hk'.out]
    · have hb1 : ((ts.length : Int) == 1) = false := by rw [beq_eq_false_iff_ne]; omega
      have H1 := hid h1
      clear h1
      go_enter Tryd.func33, Tryd.ntmps33
      go_wp2_with fail
      refine (HLX.out _).mono ?_
      rintro e w1 ⟨ao, cap, rfl, htk, hB1⟩
      go_wp2_with fail
      go_ret
      refine ⟨ret_bool ?_, hB1⟩
      rw [HR.out]
      split
      · exact absurd rfl H1.out
      · simp
  · have hb1 : (er == 0) = false := by rw [beq_eq_false_iff_ne]; exact he
    have H1 := hid he
    clear he
    go_enter Tryd.func33, Tryd.ntmps33
    go_wp2_with fail
    refine (HLX.out _).mono ?_
    rintro e w1 ⟨ao, cap, rfl, htk, hB1⟩
    go_wp2_with fail
    go_ret
    refine ⟨ret_bool ?_, hB1⟩
    rw [HR.out]
    simp [H1.out]
set_option maxHeartbeats 2000000 in
theorem rin_any (ao : Option Addr) (ca : Nat) (l : List ByteArray) (s : ByteArray) (w : World) (hA : SlV w ao (strsV l)) (hl : l.length ≤ 100000) :
    Calls Tryd.prog 30 #[.slice ao l.length ca, .string s] w fun e w' => e = .returned (.bool (decide (s ∈ l))) ∧ w = w' := by
  obtain ⟨R, HR⟩ : ∃ R, Hid (decide (s ∈ l) = R) := ⟨_, hid rfl⟩
  rw [HR.out]
  generalize hn : l.length = n at *
  have HN := hid hn
  clear hn
  go_enter Tryd.func30, Tryd.ntmps30
  go_wp2_with fail
  go_loopw [5] (fun s5 wr => ∃ k : Nat, s5 = .int .i64 k ∧ k ≤ n ∧ Hid (s ∉ l.take k) ∧ w = wr) (fun s5 _ => n - (intOf s5).toNat)
  case atStart => exact ⟨0, rfl, by omega, hid (by simp), rfl⟩
  case round =>
    obtain ⟨k, rfl, hk, HP, rfl⟩ := hrel
    by_cases hkn : k < n
    · obtain ⟨x, hx⟩ : ∃ x, l[k]? = some x := ⟨_, List.getElem?_eq_getElem (by rw [HN.out]; omega)⟩
      obtain ⟨b1, o1, e1, _, c1⟩ := hA.cell k (.string x) (by unfold strsV; rw [List.getElem?_map, hx]; rfl)
      subst e1
      have hkI : (k : Int) < (n : Int) := by omega
      have HX := hid hx
      clear hx
      by_cases hq : x = s
      · have hqb : (x.toList == s.toList) = true := by rw [bytes_beq]; exact decide_eq_true hq
        have HQ := hid hq
        clear hq
        go_wp2_with fail
        go_ret
        refine ⟨ret_bool ?_, by trivial⟩
        rw [← HR.out, decide_eq_true (by rw [← HQ.out]; exact List.mem_of_getElem? HX.out)]
      · have hqb : (x.toList == s.toList) = false := by rw [bytes_beq]; exact decide_eq_false hq
        have HQ := hid hq
        clear hq
        go_wp2_with fail
        go_roundw
        case rel =>
          refine ⟨k + 1, by go_num, by omega, hid ?_, by trivial⟩
          rw [List.take_add_one, HX.out]
          simp only [Option.toList_some, List.mem_append, List.mem_singleton]
          rintro (q | q)
          · exact HP.out q
          · exact HQ.out q.symm
        case measure => simp [intOf]; omega
    · go_wp2_with fail
      go_ret
      refine ⟨ret_bool ?_, by trivial⟩
      rw [← HR.out, decide_eq_false]
      have := HP.out
      rwa [List.take_of_length_le (by rw [HN.out]; omega)] at this
/-- the index of the first entry with an Id, -1 if there is none -/
def ixI (L : List Ent) (s : ByteArray) : Int := if s ∈ ids L then (idx (ps L) s : Int) else -1
theorem idx_first {L : List Ent} {k : Nat} {s : ByteArray} (h : (ids L)[k]? = some s) (h2 : s ∉ (ids L).take k) : idx (ps L) s = k := by
  have hm : s ∈ ids L := List.mem_of_getElem? h
  have hkl : k < (ps L).length := by have := (List.getElem?_eq_some_iff.1 h).1; rw [ids_len] at this; simpa [ps] using this
  have hlt : idx (ps L) s < (ps L).length := by
    obtain ⟨e, he, q⟩ := List.mem_map.1 hm
    exact List.findIdx_lt_length_of_exists ⟨e.p, (List.mem_map.2 ⟨e, he, rfl⟩), decide_eq_true q⟩
  obtain ⟨d, h3, h4⟩ := idx_get hlt
  have hd : (ids L)[idx (ps L) s]? = some s := by rw [← ps_ids, List.getElem?_map, h3, ← h4]; rfl
  apply Classical.byContradiction
  intro hne
  rcases Nat.lt_or_gt_of_ne hne with q | q
  · apply h2
    refine List.mem_of_getElem? (i := idx (ps L) s) ?_
    rw [List.getElem?_take, if_pos q, hd]
  · have hk : (ps L)[k]? = some (ps L)[k] := List.getElem?_eq_getElem hkl
    have hkid : (ps L)[k].id = s := by
      have : ((ps L).map En.id)[k]? = some s := by rw [ps_ids]; exact h
      rw [List.getElem?_map, hk] at this
      exact Option.some.inj this
    have := List.not_of_lt_findIdx (p := fun e : En => decide (e.id = s)) (xs := ps L) q
    simp [hkid] at this
set_option maxHeartbeats 2000000 in
theorem ridx_any (ao : Option Addr) (ca : Nat) (L : List Ent) (s : ByteArray) (w : World) (hE : Ents w ao L) (hl : L.length ≤ 100000) :
    Calls Tryd.prog 31 #[.slice ao L.length ca, .string s] w fun e w' => e = .returned (.int .i64 (ixI L s)) ∧ w = w' := by
  obtain ⟨R, HR⟩ : ∃ R, Hid (ixI L s = R) := ⟨_, hid rfl⟩
  rw [HR.out]
  generalize hn : L.length = n at *
  have HN := hid hn
  clear hn
  go_enter Tryd.func31, Tryd.ntmps31
  go_wp2_with fail
  go_loopw [5] (fun s5 wr => ∃ k : Nat, s5 = .int .i64 k ∧ k ≤ n ∧ Hid (s ∉ (ids L).take k) ∧ w = wr) (fun s5 _ => n - (intOf s5).toNat)
  case atStart => exact ⟨0, rfl, by omega, hid (by simp), rfl⟩
  case round =>
    obtain ⟨k, rfl, hk, HP, rfl⟩ := hrel
    by_cases hkn : k < n
    · obtain ⟨d, hd⟩ : ∃ x, L[k]? = some x := ⟨_, List.getElem?_eq_getElem (by rw [HN.out]; omega)⟩
      obtain ⟨b0, o0, ea, hb0, a0, -⟩ := hE.at hd
      subst ea
      have hkI : (k : Int) < (n : Int) := by omega
      have HX := hid (ids_get hd)
      clear hd
      generalize d.id = x at *
      by_cases hq : x = s
      · have hqb : (x.toList == s.toList) = true := by rw [bytes_beq]; exact decide_eq_true hq
        have HQ := hid hq
        clear hq
        go_wp2_with fail
        go_ret
        refine ⟨ret_int ?_, by trivial⟩
        have hx := HX.out
        rw [HQ.out] at hx
        rw [← HR.out]
        unfold ixI
        rw [if_pos (List.mem_of_getElem? hx), idx_first hx HP.out]
      · have hqb : (x.toList == s.toList) = false := by rw [bytes_beq]; exact decide_eq_false hq
        have HQ := hid hq
        clear hq
        go_wp2_with fail
        go_roundw
        case rel =>
          refine ⟨k + 1, by go_num, by omega, hid ?_, by trivial⟩
          rw [List.take_add_one, HX.out]
          simp only [Option.toList_some, List.mem_append, List.mem_singleton]
          rintro (q | q)
          · exact HP.out q
          · exact HQ.out q.symm
        case measure => simp [intOf]; omega
    · go_wp2_with fail
      go_ret
      refine ⟨ret_int ?_, by trivial⟩
      have := HP.out
      rw [List.take_of_length_le (by rw [ids_len, HN.out]; omega)] at this
      rw [← HR.out]
      unfold ixI
      rw [if_neg this]
set_option maxHeartbeats 2000000 in
theorem rless_any (ao bo : Option Addr) (n ca cb : Nat) (a b : List ByteArray) (w : World) (hA : SlV w ao (strsV a)) (hB : SlV w bo (strsV b)) (hn : a.length = n) (hm : b.length = n) (hnl : n ≤ 100000) :
    Calls Tryd.prog 32 #[.slice ao n ca, .slice bo n cb] w fun e w' => e = .returned (.bool (decide (cmpCh a b < 0))) ∧ Below w.heap.size w w' := by
  obtain ⟨C, HC⟩ : ∃ C, Hid (cmpCh a b = C) := ⟨_, hid rfl⟩
  rw [HC.out]
  have HNM := hid (And.intro hn hm)
  clear hn hm
  go_enter Tryd.func32, Tryd.ntmps32
  go_wp2_with fail
  go_loopw [5] (fun s5 wr => ∃ k : Nat, s5 = .int .i64 k ∧ k ≤ n ∧ Hid (a.take k = b.take k) ∧ Below w.heap.size w wr) (fun s5 _ => n - (intOf s5).toNat)
  case atStart => exact ⟨0, rfl, by omega, hid (by simp), Below.refl _ _⟩
  case round =>
    obtain ⟨k, rfl, hk, HT, hBw⟩ := hrel
    obtain ⟨hn, hm⟩ := HNM.out
    have HL := hid (lexC_drop HT.out (by omega) (by omega))
    by_cases hkn : k < n
    · obtain ⟨x, hx⟩ : ∃ x, a[k]? = some x := ⟨_, List.getElem?_eq_getElem (by omega)⟩
      obtain ⟨y, hy⟩ : ∃ y, b[k]? = some y := ⟨_, List.getElem?_eq_getElem (by omega)⟩
      obtain ⟨b1, o1, e1, hb1, c1⟩ := (hA.below hBw).cell k (.string x) (by unfold strsV; rw [List.getElem?_map, hx]; rfl)
      obtain ⟨b2, o2, e2, hb2, c2⟩ := (hB.below hBw).cell k (.string y) (by unfold strsV; rw [List.getElem?_map, hy]; rfl)
      subst e1 e2
      have HX := hid hx
      have HY := hid hy
      have hL2 : Hid (C = if cmpB x y = 0 then lexC cmpB (a.drop (k + 1)) (b.drop (k + 1)) else cmpB x y) := by
        unfold Hid
        rw [← HC.out, HL.out, List.drop_eq_getElem_cons (l := a) (i := k) (by omega), List.drop_eq_getElem_cons (l := b) (i := k) (by omega), lexC]
        have h1 : a[k] = x := by rw [List.getElem?_eq_getElem (by omega)] at hx; exact Option.some.inj hx
        have h2 : b[k] = y := by rw [List.getElem?_eq_getElem (by omega)] at hy; exact Option.some.inj hy
        rw [h1, h2]
      clear hx hy hn hm hA hB
      have hkI : (k : Int) < (n : Int) := by omega
      rcases cmpB_cases x y with ⟨h1, h2⟩ | ⟨h1, h2, h3⟩ | ⟨h1, h2, h3⟩
      · have h3 : (x.toList == y.toList) = false := by
          rw [bytes_beq]
          refine decide_eq_false fun q => ?_
          rw [(bytes_good.zero x y).2 q] at h1
          omega
        have HC1 : Hid (decide (C < 0) = true) := by unfold Hid; rw [hL2.out, h1]; simp
        clear h1 hb1 hb2
        go_wp2_with fail
        refine wp_region_quiet_all (by kernel_rfl) (by kernel_rfl) ?_
        repeat (go_big_quiet_step (fail))
        refine wpQuiet_end ?_
        go_wp2_with fail
        refine wp_region_quiet_all (by kernel_rfl) (by kernel_rfl) ?_
        repeat (go_big_quiet_step (fail))
        refine wpQuiet_end ?_
        go_wp2_with fail
        go_ret
        exact ⟨ret_bool (by first | rw [HC1.out] | exact HC1.out.symm), hBw.drew.drew⟩
      · have HC1 : Hid (decide (C < 0) = false) := by unfold Hid; rw [hL2.out, h1]; simp
        clear h1 hb1 hb2
        go_wp2_with fail
        refine wp_region_quiet_all (by kernel_rfl) (by kernel_rfl) ?_
        repeat (go_big_quiet_step (fail))
        refine wpQuiet_end ?_
        go_wp2_with fail
        refine wp_region_quiet_all (by kernel_rfl) (by kernel_rfl) ?_
        repeat (go_big_quiet_step (fail))
        refine wpQuiet_end ?_
        go_wp2_with fail
        go_ret
        exact ⟨ret_bool (by first | rw [HC1.out] | exact HC1.out.symm), hBw.drew.drew⟩
      · have hxy := (bytes_good.zero x y).1 h1
        have HT2 : Hid (a.take (k + 1) = b.take (k + 1)) := by
          unfold Hid
          rw [List.take_add_one, List.take_add_one, HX.out, HY.out, HT.out, hxy]
        clear h1 hxy hb1 hb2
        go_wp2_with fail
        refine wp_region_quiet_all (by kernel_rfl) (by kernel_rfl) ?_
        repeat (go_big_quiet_step (fail))
        refine wpQuiet_end ?_
        go_wp2_with fail
        go_roundw
        case rel => exact ⟨k + 1, by go_num, by omega, HT2, hBw.drew⟩
        case measure => simp [intOf]; omega
    · have hke : k = n := by omega
      subst hke
      have hC : Hid (decide (C < 0) = false) := by
        unfold Hid
        rw [← HC.out, HL.out, List.drop_eq_nil_of_le (by omega : a.length ≤ k), List.drop_eq_nil_of_le (by omega : b.length ≤ k)]
        rfl
      go_wp2_with fail
      go_ret
      exact ⟨ret_bool (by first | rw [hC.out] | exact hC.out.symm), hBw⟩
end Go.Proofs.YtgkgpfennlkcnaaDoor
namespace Go.Proofs.YtgkgpfennlkcnaaDoor
open Go.RowKit

theorem ixI_yes {L : List Ent} {c : ByteArray} (h : c ∈ ids L) : ixI L c = (idx (ps L) c : Int) ∧ idx (ps L) c < L.length := by
  refine ⟨by unfold ixI; rw [if_pos h], ?_⟩
  obtain ⟨e, he, q⟩ := List.mem_map.1 h
  have : idx (ps L) c < (ps L).length := List.findIdx_lt_length_of_exists ⟨e.p, List.mem_map.2 ⟨e, he, rfl⟩, decide_eq_true q⟩
  simpa [ps] using this
theorem ixI_no {L : List Ent} {c : ByteArray} (h : c ∉ ids L) : ixI L c = -1 := by unfold ixI; rw [if_neg h]
theorem ixI_self {L : List Ent} {i : Nat} {e : Ent} (h : L[i]? = some e) : ixI L e.id = (i : Int) ↔ e.id ∉ (ids L).take i := by
  have hg := ids_get h
  have hm : e.id ∈ ids L := List.mem_of_getElem? hg
  constructor
  · intro q hm2
    rw [(ixI_yes hm).1] at q
    obtain ⟨j, hj⟩ := List.mem_iff_getElem?.1 hm2
    rw [List.getElem?_take] at hj
    split at hj
    · rename_i hji
      have hlt : j < idx (ps L) e.id := by omega
      have := List.not_of_lt_findIdx (p := fun d : En => decide (d.id = e.id)) (xs := ps L) hlt
      have hjl : j < (ps L).length := Nat.lt_of_lt_of_le hlt (List.findIdx_le_length)
      have hk : (ps L)[j]? = some (ps L)[j] := List.getElem?_eq_getElem hjl
      have hkid : (ps L)[j].id = e.id := by
        have h3 : ((ps L).map En.id)[j]? = some e.id := by rw [ps_ids]; exact hj
        rw [List.getElem?_map, hk] at h3
        exact Option.some.inj h3
      simp [hkid] at this
    · cases hj
  · intro q
    rw [(ixI_yes hm).1, idx_first hg q]
theorem tok1_name {s : List UInt8} {k n : Int} {t : List UInt8} {m : Nat} (h : tok1 s = .tok k t n m) (hk : k = 1) : t.length ≤ 24 := by
  unfold tok1 at h
  split at h
  · split at h
    · cases h
    · injection h with h1 h2 h3 h4
      subst h2
      rw [List.length_take]
      omega
  · split at h
    · split at h
      · cases h
      · injection h with h1 h2 h3 h4; omega
    · split at h
      · split at h
        · cases h
        · split at h
          · cases h
          · injection h with h1 h2 h3 h4; omega
      · split at h
        · split at h
          · injection h with h1 h2 h3 h4; omega
          · split at h
            · cases h
            · injection h with h1 h2 h3 h4; omega
        · split at h
          · injection h with h1 h2 h3 h4; omega
          · cases h
theorem id_short {l : List UInt8} (h : idB l = true) : l.length ≤ 24 := by
  unfold idB at h
  rw [Bool.and_eq_true] at h
  obtain ⟨_, h2⟩ := h
  unfold lexL at h2
  by_cases hb : 20000 < l.length
  · rw [if_pos hb] at h2
    cases h2
  · rw [if_neg hb, lexF] at h2
    by_cases hg : l.length ≤ gapL false l
    · rw [if_pos hg] at h2
      cases h2
    · rw [if_neg hg] at h2
      cases htk : tok1 (l.drop (gapL false l)) with
      | err e => simp [htk] at h2
      | tok kd tx n w =>
        rw [htk] at h2
        simp only [show ¬ (0 = 5000) by decide, if_false] at h2
        unfold joinR at h2
        generalize lexF l.length (0 + 1) (0 + gapL false l + w) (l.drop (gapL false l + w)) = R at h2
        obtain ⟨R1, R2, R3⟩ := R
        by_cases hz : R2 = 0
        · subst hz
          cases R1 with
          | nil =>
            simp at h2
            have := tok1_name htk h2.1
            rw [← h2.2]
            exact this
          | cons a b => simp at h2
        · simp [hz] at h2
/-- what an entry has to be -/
def EOk (L : List Ent) (i : Nat) (e : Ent) : Prop := e.id ∉ (ids L).take i ∧ idB e.id.data.toList = true ∧ e.cs.length ≤ 20 ∧ ∀ j c, e.cs[j]? = some c → c ∈ ids L ∧ c ∉ e.cs.take j
theorem validB_all {L : List Ent} (h1 : L.length ≤ 1000) (h : ∀ i e, L[i]? = some e → EOk L i e) : validB L = true := by
  refine validB_iff.2 ⟨h1, fun i e _ he => ?_, fun i e _ he j c _ hc => (h i e he).2.2.2 j c hc⟩
  obtain ⟨a, b, c, _⟩ := h i e he
  exact ⟨a, b, c⟩
theorem validB_ok {L : List Ent} (h : validB L = true) {i : Nat} {e : Ent} (he : L[i]? = some e) : EOk L i e := by
  obtain ⟨_, h2, h3⟩ := validB_iff.1 h
  have hi := (List.getElem?_eq_some_iff.1 he).1
  obtain ⟨a, b, c⟩ := h2 i e hi he
  exact ⟨a, b, c, fun j x hx => h3 i e hi he j x (List.getElem?_eq_some_iff.1 hx).1 hx⟩
theorem validB_bad {L : List Ent} {i : Nat} {e : Ent} (he : L[i]? = some e) (h : ¬ EOk L i e) : validB L = false := by
  rw [Bool.eq_false_iff]
  exact fun q => h (validB_ok q he)
theorem validB_many {L : List Ent} (h : 1000 < L.length) : validB L = false := by
  rw [Bool.eq_false_iff]
  intro q
  have := (validB_iff.1 q).1
  omega
set_option maxHeartbeats 4000000 in
set_option maxRecDepth 100000 in
theorem rvalid_any (ao : Option Addr) (ca : Nat) (L : List Ent) (w : World) (hE : Ents w ao L) (hS : Small L) :
    Calls Tryd.prog 21 #[.slice ao L.length ca] w fun e w' => e = .returned (.bool (validB L)) ∧ Below w.heap.size w w' := by
  obtain ⟨R, HR⟩ : ∃ R, Hid (validB L = R) := ⟨_, hid rfl⟩
  rw [HR.out]
  obtain ⟨hl, hsm⟩ := hS
  have HSM := hid hsm
  have HIX := hid (fun (s : ByteArray) (w : World) (h : Ents w ao L) => ridx_any ao ca L s w h hl)
  have HID := hid (fun (s : ByteArray) (w : World) (h : s.size ≤ 1000000) => rident_any s w h)
  have HALL := hid (validB_all (L := L))
  have HMANY := hid (validB_many (L := L))
  generalize hn : L.length = n at *
  have HN := hid hn
  clear hn hsm
  by_cases hbig : 1000 < n
  · have hbI : (1000 : Int) < (n : Int) := by omega
    go_enter Tryd.func21, Tryd.ntmps21
    go_wp2_with fail
    go_ret
    exact ⟨ret_bool (by rw [← HR.out, HMANY.out hbig]), Below.refl _ _⟩
  go_enter Tryd.func21, Tryd.ntmps21
  go_wp2_with fail
  go_loopw [3] (fun s3 wr => ∃ i : Nat, s3 = .int .i64 i ∧ i ≤ n ∧ Hid (∀ q e, q < i → L[q]? = some e → EOk L q e) ∧ Below w.heap.size w wr) (fun s3 _ => n - (intOf s3).toNat)
  case atStart => exact ⟨0, rfl, by omega, hid (fun q e h _ => by omega), Below.refl _ _⟩
  case round =>
    obtain ⟨i, rfl, hi, HP, hB⟩ := hrel
    by_cases hin : i < n
    · have hEr := hE.below hB
      obtain ⟨d, hd⟩ : ∃ x, L[i]? = some x := ⟨_, List.getElem?_eq_getElem (by rw [HN.out]; omega)⟩
      obtain ⟨b0, o0, ea, hb0, a0, a1⟩ := hEr.at hd
      subst ea
      have hiI : (i : Int) < (n : Int) := by omega
      have HD := hid hd
      have hsz := (HSM.out d (List.mem_of_getElem? hd)).1
      have hcl := (HSM.out d (List.mem_of_getElem? hd)).2
      have hcs := hEr.cs d (List.mem_of_getElem? hd)
      have HNO := hid (fun (h : ¬ EOk L i d) => validB_bad hd h)
      have HSELF := hid (ixI_self hd)
      clear hd
      by_cases h24 : 24 < d.id.size
      · have h24I : (24 : Int) < (d.id.size : Int) := by omega
        go_wp2_with fail
        go_ret
        refine ⟨ret_bool ?_, hB⟩
        rw [← HR.out, HNO.out]
        rintro ⟨_, q, _⟩
        have := id_short q
        have e : d.id.data.toList.length = d.id.size := rfl
        omega
      · have h24I : ¬ (24 : Int) < (d.id.size : Int) := by omega
        have hq1 := HID.out d.id wr hsz
        obtain ⟨x1, hx1⟩ : ∃ x, idB d.id.data.toList = x := ⟨_, rfl⟩
        rw [hx1] at hq1
        cases x1 with
        | false =>
          go_wp2_with fail
          refine hq1.mono ?_
          rintro e w1 ⟨rfl, hB1⟩
          go_wp2_with fail
          go_ret
          refine ⟨ret_bool ?_, bthen hB hB1⟩
          rw [← HR.out, HNO.out]
          rintro ⟨_, q, _⟩
          rw [hx1] at q
          cases q
        | true =>
          have HX1 := hid hx1
          clear hx1
          go_wp2_with fail
          refine hq1.mono ?_
          rintro e w1 ⟨rfl, hB1⟩
          have hEr1 := hEr.below hB1
          replace a0 := (hB1.cell (p := ⟨b0, o0 + i * 2, none⟩) hb0).trans a0
          replace a1 := (hB1.cell (p := ⟨b0, o0 + i * 2 + 1, none⟩) hb0).trans a1
          replace hcs := hcs.below hB1
          replace hB := bthen hB hB1
          have hq2 := HIX.out d.id w1 hEr1
          clear hq1 hB1 hb0 hEr
          obtain ⟨x2, hx2⟩ : ∃ x, ixI L d.id = x := ⟨_, rfl⟩
          rw [hx2] at hq2
          by_cases hx3 : x2 = (i : Int)
          · subst hx3
            have HX2 := hid (HSELF.out.1 hx2)
            clear hx2
            by_cases h20 : 20 < d.cs.length
            · have h20I : (20 : Int) < (d.cs.length : Int) := by omega
              go_wp2_with fail
              refine hq2.mono ?_
              rintro e w2 ⟨rfl, rfl⟩
              go_wp2_with fail
              go_ret
              refine ⟨ret_bool ?_, hB⟩
              rw [← HR.out, HNO.out]
              rintro ⟨_, _, q, _⟩
              omega
            · have h20I : ¬ (20 : Int) < (d.cs.length : Int) := by omega
              go_wp2_with fail
              refine hq2.mono ?_
              rintro e w2 ⟨rfl, rfl⟩
              clear hq2
              go_wp2_with fail
              obtain ⟨did, dao, dcs, dcap⟩ := d
              simp only at a0 a1 hcs h20 h20I hcl
              generalize hcn : dcs.length = cl at *
              have HCN := hid hcn
              clear hcn
              have hnI : ¬ (1000 : Int) < (n : Int) := by omega
              go_loopw [4] (fun s4 wr => ∃ k : Nat, s4 = .int .i64 k ∧ k ≤ cl ∧ Hid (∀ q c, q < k → dcs[q]? = some c → c ∈ ids L ∧ c ∉ dcs.take q) ∧ Below w1.heap.size w1 wr) (fun s4 _ => cl - (intOf s4).toNat)
              case atStart => exact ⟨0, rfl, by omega, hid (fun q c h _ => by omega), Below.refl _ _⟩
              case round =>
                obtain ⟨k, rfl, hk, HQ, hBk⟩ := hrel
                have hb0 : b0 < w1.heap.size := by
                  obtain ⟨b, off, q, hb, _⟩ := hEr1.at HD.out
                  cases q
                  exact hb
                have a1k := (hBk.cell (p := ⟨b0, o0 + i * 2 + 1, none⟩) hb0).trans a1
                by_cases hkc : k < cl
                · obtain ⟨c, hc⟩ : ∃ x, dcs[k]? = some x := ⟨_, List.getElem?_eq_getElem (by rw [HCN.out]; omega)⟩
                  obtain ⟨b2, o2, e2, hb2, d2⟩ := (hcs.below hBk).cell k (.string c) (by rw [List.getElem?_map, hc]; rfl)
                  subst e2
                  have hkI : (k : Int) < (cl : Int) := by omega
                  have HC := hid hc
                  have hq3 := HIX.out c wr (hEr1.below hBk)
                  clear hc
                  by_cases hcm : c ∈ ids L
                  · obtain ⟨y1, y2⟩ := ixI_yes hcm
                    rw [y1] at hq3
                    have HCM := hid hcm
                    clear y1 hcm
                    generalize idx (ps L) c = ic at *
                    have hicI : ¬ ((ic : Int) < 0) := by omega
                    go_wp2_with fail
                    refine hq3.mono ?_
                    rintro e w2 ⟨rfl, rfl⟩
                    clear hq3
                    obtain ⟨wo, hwo⟩ : ∃ y, y = wr := ⟨_, rfl⟩
                    subst hwo
                    go_wp2_with fail
                    go_loopw [5] (fun s5 wr => ∃ j : Nat, s5 = .int .i64 j ∧ j ≤ k ∧ Hid (c ∉ dcs.take j) ∧ Below wo.heap.size wo wr) (fun s5 _ => k - (intOf s5).toNat)
                    case atStart => exact ⟨0, rfl, by omega, hid (by simp), Below.refl _ _⟩
                    case round =>
                      obtain ⟨j, rfl, hj, HJ, hBj⟩ := hrel
                      by_cases hjk : j < k
                      · obtain ⟨x, hx⟩ : ∃ x, dcs[j]? = some x := ⟨_, List.getElem?_eq_getElem (by rw [HCN.out]; omega)⟩
                        obtain ⟨b3, o3, e3, hb3, d3⟩ := (hcs.below hBk).cell j (.string x) (by rw [List.getElem?_map, hx]; rfl)
                        cases e3
                        have hb0o : b0 < wo.heap.size := Nat.lt_of_lt_of_le hb0 hBk.size
                        have a1j := (hBj.cell (p := ⟨b0, o0 + i * 2 + 1, none⟩) hb0o).trans a1k
                        have d2j := (hBj.cell (p := ⟨b2, o2 + k, none⟩) hb2).trans d2
                        have d3j := (hBj.cell (p := ⟨b2, o2 + j, none⟩) hb3).trans d3
                        have hjI : (j : Int) < (cl : Int) := by omega
                        have hjkI : (j : Int) < (k : Int) := by omega
                        have HXJ := hid hx
                        clear hx a1k d2 d3 a1 hb0 hb0o hb2 hb3
                        by_cases hxc : x = c
                        · have hxb : (x.toList == c.toList) = true := by rw [bytes_beq]; exact decide_eq_true hxc
                          have HXC := hid hxc
                          clear hxc
                          go_wp2_with fail
                          refine wp_region_quiet_all (by kernel_rfl) (by kernel_rfl) ?_
                          repeat (go_big_quiet_step (fail))
                          refine wpQuiet_end ?_
                          go_wp2_with fail
                          go_ret
                          refine ⟨ret_bool ?_, bthen hB (bthen hBk hBj.drew)⟩
                          rw [← HR.out, HNO.out]
                          rintro ⟨_, _, _, q⟩
                          refine (q k c HC.out).2 ?_
                          refine List.mem_of_getElem? (i := j) ?_
                          rw [List.getElem?_take, if_pos hjk]
                          show dcs[j]? = some c
                          rw [HXJ.out, HXC.out]
                        · have hxb : (x.toList == c.toList) = false := by rw [bytes_beq]; exact decide_eq_false hxc
                          have HXC := hid hxc
                          clear hxc
                          go_wp2_with fail
                          refine wp_region_quiet_all (by kernel_rfl) (by kernel_rfl) ?_
                          repeat (go_big_quiet_step (fail))
                          refine wpQuiet_end ?_
                          go_wp2_with fail
                          go_roundw
                          case rel =>
                            refine ⟨j + 1, by go_num, by omega, hid ?_, hBj.drew⟩
                            rw [List.take_add_one, HXJ.out]
                            simp only [Option.toList_some, List.mem_append, List.mem_singleton]
                            rintro (q | q)
                            · exact HJ.out q
                            · exact HXC.out q.symm
                          case measure => simp [intOf]; omega
                      · obtain rfl : j = k := by omega
                        go_wp2_with fail
                        go_roundw
                        case rel =>
                          refine ⟨j + 1, by go_num, by omega, hid ?_, bthen hBk hBj⟩
                          intro q c' hq hc'
                          by_cases hqj : q < j
                          · exact HQ.out q c' hqj hc'
                          · obtain rfl : q = j := by omega
                            rw [HC.out] at hc'
                            cases hc'
                            exact ⟨HCM.out, HJ.out⟩
                        case measure => simp [intOf]; omega
                  · rw [ixI_no hcm] at hq3
                    have HCM := hid hcm
                    clear hcm
                    go_wp2_with fail
                    refine hq3.mono ?_
                    rintro e w2 ⟨rfl, rfl⟩
                    go_wp2_with fail
                    go_ret
                    refine ⟨ret_bool ?_, bthen hB hBk⟩
                    rw [← HR.out, HNO.out]
                    rintro ⟨_, _, _, q⟩
                    exact HCM.out (q k c HC.out).1
                · go_wp2_with fail
                  go_roundw
                  case rel =>
                    refine ⟨i + 1, by go_num, by omega, hid ?_, bthen hB hBk⟩
                    intro q e hq he
                    by_cases hqi : q < i
                    · exact HP.out q e hqi he
                    · obtain rfl : q = i := by omega
                      rw [HD.out] at he
                      cases he
                      refine ⟨HX2.out, HX1.out, by show dcs.length ≤ 20; rw [HCN.out]; omega, fun j c hc => ?_⟩
                      have hjl := (List.getElem?_eq_some_iff.1 hc).1
                      have hjl2 : j < dcs.length := hjl
                      rw [HCN.out] at hjl2
                      exact HQ.out j c (by omega) hc
                  case measure => simp [intOf]; omega
          · have hxb : (x2 == (i : Int)) = false := by rw [beq_eq_false_iff_ne]; exact hx3
            go_wp2_with fail
            refine hq2.mono ?_
            rintro e w2 ⟨rfl, rfl⟩
            go_wp2_with fail
            go_ret
            refine ⟨ret_bool ?_, hB⟩
            rw [← HR.out, HNO.out]
            rintro ⟨q, _⟩
            exact hx3 (by rw [← hx2]; exact HSELF.out.2 q)
    · have hfin : Hid (R = true) := by
        unfold Hid
        rw [← HR.out]
        refine HALL.out (by omega) (fun q e he => HP.out q e ?_ he)
        have := (List.getElem?_eq_some_iff.1 he).1
        rw [HN.out] at this
        omega
      go_wp2_with fail
      go_ret
      exact ⟨ret_bool (by rw [hfin.out]), hB⟩
end Go.Proofs.YtgkgpfennlkcnaaDoor
namespace Go.Proofs.YtgkgpfennlkcnaaDoor
open Go.RowKit

theorem rbools_get {l : List Bool} {j : Nat} (h : j < l.length) : (bools l)[j]? = some (.bool (at0 l j)) := by
  unfold bools at0
  rw [List.getElem?_map, List.getD, List.getElem?_eq_getElem h]
  rfl
theorem rbools_set (l : List Bool) (j : Nat) (b : Bool) : (bools l).set j (.bool b) = bools (l.set j b) := by
  unfold bools
  rw [List.map_set]
theorem pre_yes {out2 O : List Bool} {i ic : Nat} {p : Bool} (hO : O = if p = true then out2.set i true else out2) (h : at0 O ic = true) : O.set i true = if (p || at0 out2 ic) = true then out2.set i true else out2 := by
  cases p with
  | true => simp only [if_true] at hO; subst hO; simp
  | false => simp only [Bool.false_eq_true, if_false] at hO; subst hO; rw [h]; simp
theorem pre_no {out2 O : List Bool} {i ic : Nat} {p : Bool} (hO : O = if p = true then out2.set i true else out2) (h : at0 O ic = false) : O = if (p || at0 out2 ic) = true then out2.set i true else out2 := by
  cases p with
  | true => simp only [if_true] at hO; subst hO; simp
  | false => simp only [Bool.false_eq_true, if_false] at hO; subst hO; rw [h]; simp
theorem pre_len {out2 O : List Bool} {i : Nat} {p : Bool} (hO : O = if p = true then out2.set i true else out2) : O.length = out2.length := by
  rw [hO]; split <;> simp
/-- has one of the first causes been supported? -/
def preC (P : List En) (out : List Bool) (cs : List ByteArray) (k : Nat) : Bool := cs.isEmpty || (cs.take k).any (fun c => at0 out (idx P c))
theorem preC_step {P : List En} {out : List Bool} {cs : List ByteArray} {k : Nat} {c : ByteArray} (h : cs[k]? = some c) : preC P out cs (k + 1) = (preC P out cs k || at0 out (idx P c)) := by
  unfold preC
  rw [List.take_add_one, h, List.any_append]
  simp [Bool.or_assoc]
theorem preC_end {P : List En} {R : List ByteArray} {out : List Bool} {i : Nat} {e : En} (he : P[i]? = some e) (hr : e.id ∉ R) {O : List Bool} (hO : O = if preC P out e.cs e.cs.length = true then out.set i true else out) : O = stepM P R out i := by
  unfold stepM
  rw [he, hO]
  have : applies P R out e = preC P out e.cs e.cs.length := by
    unfold applies preC
    rw [decide_eq_false hr, List.take_length]
    rfl
  simp only [this]
theorem step_out {P : List En} {R : List ByteArray} {out : List Bool} {i : Nat} {e : En} (he : P[i]? = some e) (hr : e.id ∈ R) : stepM P R out i = out := by
  unfold stepM
  rw [he]
  have : applies P R out e = false := by unfold applies; rw [decide_eq_true hr]; rfl
  simp [this]
set_option maxHeartbeats 4000000 in
set_option maxRecDepth 100000 in
theorem rsup_any (ao ro : Option Addr) (cap rc : Nat) (L : List Ent) (R : List ByteArray) (w : World) (hE : Ents w ao L) (hS : Small L) (hRo : SlV w ro (strsV R)) (hR : R.length ≤ 100000) :
    Calls Tryd.prog 17 #[.slice ao L.length cap, .slice ro R.length rc] w (BoolsPost (supR L R) w) := by
  have HV := hid (rvalid_any ao cap L w hE hS)
  have hS1 := hS.1
  by_cases hj : judB L R = true
  · have hvb : validB L = true ∧ R.length ≤ 1000 := by
      unfold judB at hj
      rw [Bool.and_eq_true] at hj
      exact ⟨hj.1, of_decide_eq_true hj.2⟩
    have hv : ValidL L := validB_iff.1 hvb.1
    have hsup : supR L R = (supM (ps L) R, 0) := by unfold supR; rw [if_pos hj, supM_is hv]
    rw [hvb.1] at HV
    rw [hsup]
    have hr1 := hvb.2
    have hn1 := hv.1
    have HVL := hid hv
    have HIX := hid (fun (s : ByteArray) (w : World) (h : Ents w ao L) => ridx_any ao cap L s w h hS1)
    have hcsl := hid hS.2
    clear hj hvb hsup hv
    have hpl : (ps L).length = L.length := by simp [ps]
    generalize hn : L.length = n at *
    have HN := hid hn
    have HPL := hid hpl
    clear hn hpl
    generalize hm : R.length = m at *
    have HM := hid hm
    clear hm
    have hmk := fun w => run_make_row' (P := Tryd.prog) 26 4 (.bool false) 1 Tryd.ulBools Tryd.inBool rfl .i64 .i64 n (by omega) (by omega) w
    have hmI : ¬ (1000 : Int) < (m : Int) := by omega
    go_enter Tryd.func17, Tryd.ntmps17
    go_wp2_with fail
    refine HV.out.mono ?_
    rintro e w0 ⟨rfl, hB⟩
    have hEr := hE.below hB
    have hRr := hRo.below hB
    clear HV hE hRo
    go_wp2_with fail
    have hob : Blk (w0.alloc (.cells (madeCells #[.bool false] n) 4)) w0.heap.size 4 (bools (List.replicate n false)) := by
      have := Blk.new w0 (madeCells #[.bool false] n) 4
      rwa [made_bools] at this
    have hB0 : Below w0.heap.size w0 (w0.alloc (.cells (madeCells #[.bool false] n) 4)) := below_alloc _ _
    obtain ⟨ob, hobe⟩ : ∃ b, w0.heap.size = b := ⟨_, rfl⟩
    rw [hobe] at hob hB0 ⊢
    clear hmk
    generalize w0.alloc (.cells (madeCells #[.bool false] n) 4) = w1 at *
    go_loopw [7] (fun s7 wr => ∃ (r : Nat) (out : List Bool), s7 = .int .i64 r ∧ r ≤ n + 1 ∧ Hid (out = iter (passM (ps L) R n) r (List.replicate n false)) ∧ Hid (out.length = n) ∧ Blk wr ob 4 (bools out) ∧ Below ob w0 wr) (fun s7 _ => n + 1 - (intOf s7).toNat)
    case atStart => exact ⟨0, List.replicate n false, rfl, by omega, hid rfl, hid (by simp), hob, hB0⟩
    case round =>
      obtain ⟨r, out, rfl, hr, HO, HOL, hbo, hBr⟩ := hrel
      clear hob hB0
      by_cases hrn : r ≤ n
      · have hrI : (r : Int) ≤ (n : Int) := by omega
        go_wp2_with fail
        go_loopw [8] (fun s8 wr => ∃ (i : Nat) (out2 : List Bool), s8 = .int .i64 i ∧ i ≤ n ∧ Hid (out2 = passM (ps L) R i out) ∧ Hid (out2.length = n) ∧ Blk wr ob 4 (bools out2) ∧ Below ob w0 wr) (fun s8 _ => n - (intOf s8).toNat)
        case atStart => exact ⟨0, out, rfl, by omega, hid rfl, HOL, hbo, hBr⟩
        case round =>
          obtain ⟨i, out2, rfl, hi, HO2, HOL2, hbo, hBr⟩ := hrel
          by_cases hin : i < n
          · have hiI : (i : Int) < (n : Int) := by omega
            obtain ⟨d, hd⟩ : ∃ x, L[i]? = some x := ⟨_, List.getElem?_eq_getElem (by rw [HN.out]; omega)⟩
            have hE2 : Ents wr ao L := hEr.below (by rw [hobe]; exact hBr)
            have hR2 : SlV wr ro (strsV R) := hRr.below (by rw [hobe]; exact hBr)
            obtain ⟨b0, o0, ea, hb0, a0, a1⟩ := hE2.at hd
            obtain ⟨b0', o0', ea', hb0', -, -⟩ := hEr.at hd
            rw [ea] at ea'
            obtain ⟨rfl, rfl⟩ : b0 = b0' ∧ o0 = o0' := by cases ea'; exact ⟨rfl, rfl⟩
            clear ea'
            rw [hobe] at hb0'
            have hq3 := rin_any ro rc R d.id wr hR2 (by rw [HM.out]; omega)
            rw [HM.out] at hq3
            have hcl := (hcsl.out d (List.mem_of_getElem? hd)).2
            have hcs := hEr.cs d (List.mem_of_getElem? hd)
            have HD := hid hd
            have HEOK := hid (fun (j : Nat) (c : ByteArray) (hc : d.cs[j]? = some c) => (HVL.out.2.2 i d (by rw [HN.out]; exact hin) hd j c (List.getElem?_eq_some_iff.1 hc).1 hc).1)
            have HPASS := hid (passM_succ (ps L) R i out)
            clear hd
            by_cases hdr : d.id ∈ R
            · rw [decide_eq_true hdr] at hq3
              have HDR := hid hdr
              clear hdr
              rw [ea] at hE2 ⊢
              go_wp2_with fail
              refine hq3.mono ?_
              rintro e w2 ⟨rfl, rfl⟩
              go_wp2_with fail
              go_roundw
              case rel =>
                refine ⟨i + 1, out2, by go_num, by omega, hid ?_, HOL2, hbo, hBr⟩
                rw [HPASS.out, ← HO2.out, step_out (ps_get.2 ⟨d, HD.out, rfl⟩) HDR.out]
              case measure => simp [intOf]; omega
            · rw [decide_eq_false hdr] at hq3
              have HDR := hid hdr
              clear hdr
              have hfi := hbo.free i
              have hil : i < (bools out2).length := by unfold bools; rw [List.length_map, HOL2.out]; exact hin
              have hci : wr.cell? ⟨ob, i, none⟩ = some (.bool (at0 out2 i)) := (hbo.cell i).trans (rbools_get (by rw [HOL2.out]; exact hin))
              subst ea
              obtain ⟨did, dao, dcs, dcap⟩ := d
              simp only at a0 a1 hcs hcl hq3 HEOK
              generalize hcn : dcs.length = cl at *
              have HCN := hid hcn
              clear hcn hil
              have hpre : ∀ b, dcs.isEmpty = b → preC (ps L) out2 dcs 0 = b := by intro b h; unfold preC; rw [h]; simp
              have HPRE := hid hpre
              clear hpre
              by_cases hc0 : cl = 0
              all_goals
                have HC0 := hid hc0
                first
                  | have hcI : ((cl : Int) == 0) = true := (by rw [beq_iff_eq]; omega)
                    have HEM : Hid (dcs.isEmpty = true) := (by unfold Hid; rw [List.isEmpty_iff]; exact List.eq_nil_of_length_eq_zero (by rw [HCN.out]; exact hc0))
                  | have hcI : ((cl : Int) == 0) = false := (by rw [beq_eq_false_iff_ne]; omega)
                    have HEM : Hid (dcs.isEmpty = false) := (by unfold Hid; rw [← Bool.not_eq_true, List.isEmpty_iff]; intro q; apply hc0; rw [← HCN.out, q]; rfl)
                clear hc0
                go_wp2_with fail
                refine hq3.mono ?_
                rintro e w2 ⟨rfl, rfl⟩
                go_wp2_with fail
                go_loopw [9] (fun s9 wr => ∃ (k : Nat) (O : List Bool), s9 = .int .i64 k ∧ k ≤ cl ∧ Hid (O = if preC (ps L) out2 dcs k = true then out2.set i true else out2) ∧ Blk wr ob 4 (bools O) ∧ Below ob w0 wr) (fun s9 _ => cl - (intOf s9).toNat)
                case atStart =>
                  first
                    | exact ⟨0, out2.set i true, rfl, by omega, hid (by rw [HPRE.out _ HEM.out]; rfl), by rw [← rbools_set]; exact hbo.set i _, hBr.setCell (p := ⟨ob, i, none⟩) (Nat.le_refl _) _⟩
                    | exact ⟨0, out2, rfl, by omega, hid (by rw [HPRE.out _ HEM.out]; rfl), hbo, hBr⟩
                case round =>
                  clear hci hfi
                  obtain ⟨k, O, rfl, hk, HOK, hbo, hBr⟩ := hrel
                  have hE2 := hEr.below (by rw [hobe]; exact hBr)
                  have HOLK := hid ((pre_len HOK.out).trans HOL2.out)
                  obtain ⟨b1, o1, e1, hb1, -, a1⟩ := hE2.at HD.out
                  have e2 : b0 = b1 ∧ o0 = o1 := by cases e1; exact ⟨rfl, rfl⟩
                  obtain ⟨rfl, rfl⟩ := e2
                  clear e1
                  simp only at a1
                  rw [HCN.out] at a1
                  by_cases hkc : k < cl
                  · obtain ⟨c, hc⟩ : ∃ x, dcs[k]? = some x := ⟨_, List.getElem?_eq_getElem (by rw [HCN.out]; omega)⟩
                    obtain ⟨b2, o2, e2, hb2, d2⟩ := (hE2.cs _ (List.mem_of_getElem? HD.out)).cell k (.string c) (by rw [List.getElem?_map]; show (dcs[k]?).map _ = _; rw [hc]; rfl)
                    simp only at e2
                    subst e2
                    obtain ⟨y1, y2⟩ := ixI_yes (HEOK.out k c hc)
                    have hq4 := HIX.out c wr hE2
                    rw [y1] at hq4
                    have HPS := hid (preC_step (P := ps L) (out := out2) hc)
                    rw [HN.out] at y2
                    have hco : wr.cell? ⟨ob, idx (ps L) c, none⟩ = some (.bool (at0 O (idx (ps L) c))) := (hbo.cell _).trans (rbools_get (by rw [HOLK.out]; exact y2))
                    clear hc y1
                    generalize hic : idx (ps L) c = ic at *
                    have hicI : (ic : Int) < (n : Int) := by omega
                    have hkI : (k : Int) < (cl : Int) := by omega
                    have hfi := hbo.free i
                    have hci : wr.cell? ⟨ob, i, none⟩ = some (.bool (at0 O i)) := (hbo.cell i).trans (rbools_get (by rw [HOLK.out]; exact hin))
                    have hb2l : b2 < wr.heap.size := hb2
                    clear hic hb2 hb2l
                    obtain ⟨v, hvv⟩ : ∃ v, at0 O ic = v := ⟨_, rfl⟩
                    rw [hvv] at hco
                    cases v with
                    | true =>
                      have HV2 := hid (pre_yes HOK.out hvv)
                      clear hvv
                      go_wp2_with fail
                      refine hq4.mono ?_
                      rintro e w2 ⟨rfl, rfl⟩
                      go_wp2_with fail
                      go_roundw
                      case rel => exact ⟨k + 1, O.set i true, by go_num, by omega, hid (by rw [HPS.out]; exact HV2.out), by rw [← rbools_set]; exact hbo.set i _, hBr.setCell (p := ⟨ob, i, none⟩) (Nat.le_refl _) _⟩
                      case measure => simp [intOf]; omega
                    | false =>
                      have HV2 := hid (pre_no HOK.out hvv)
                      clear hvv
                      go_wp2_with fail
                      refine hq4.mono ?_
                      rintro e w2 ⟨rfl, rfl⟩
                      go_wp2_with fail
                      go_roundw
                      case rel => exact ⟨k + 1, O, by go_num, by omega, hid (by rw [HPS.out]; exact HV2.out), hbo, hBr⟩
                      case measure => simp [intOf]; omega
                  · obtain rfl : k = cl := by omega
                    go_wp2_with fail
                    go_roundw
                    case rel =>
                      refine ⟨i + 1, O, by go_num, by omega, hid ?_, HOLK, hbo, hBr⟩
                      rw [HPASS.out, ← HO2.out]
                      refine preC_end (e := ⟨did, dcs⟩) (ps_get.2 ⟨_, HD.out, rfl⟩) HDR.out ?_
                      show O = if preC (ps L) out2 dcs dcs.length = true then out2.set i true else out2
                      rw [HCN.out]
                      exact HOK.out
                    case measure => simp [intOf]; omega
          · obtain rfl : i = n := by omega
            go_wp2_with fail
            go_roundw
            case rel =>
              refine ⟨r + 1, out2, by go_num, by omega, hid ?_, HOL2, hbo, hBr⟩
              rw [iter_out, ← HO.out]
              exact HO2.out
            case measure => simp [intOf]; omega
      · obtain rfl : r = n + 1 := by omega
        have HOUT : Hid (out = supM (ps L) R) := by
          unfold Hid supM
          rw [HO.out, HPL.out]
        go_wp2_with fail
        go_ret2
        refine ⟨some ⟨ob, 0, none⟩, n, ?_, ?_, hB.trans (hBr.mono (by rw [← hobe]; exact hB.size))⟩
        · rw [← HOUT.out, HOL.out]; rfl
        · rw [← HOUT.out]
          refine ⟨by unfold bools maxLen; rw [List.length_map, HOL.out]; omega, fun j x hx => ⟨ob, 0, rfl, hbo.lt, ?_⟩⟩
          rw [hbo.cell, Nat.zero_add]
          exact hx
  · have hsup : supR L R = ([], 1) := by unfold supR; rw [if_neg hj]
    rw [hsup]
    have hjn : validB L = false ∨ (validB L = true ∧ 1000 < R.length) := by
      cases h : validB L with
      | false => exact .inl rfl
      | true =>
        refine .inr ⟨rfl, ?_⟩
        apply Classical.byContradiction
        intro q
        apply hj
        unfold judB
        rw [h, decide_eq_true (by omega)]
        rfl
    clear hj hsup
    generalize hn : L.length = n at *
    clear hn
    generalize hm : R.length = m at *
    clear hm
    rcases hjn with h | ⟨h, hm⟩
    · rw [h] at HV
      go_enter Tryd.func17, Tryd.ntmps17
      go_wp2_with fail
      refine HV.out.mono ?_
      rintro e w0 ⟨rfl, hB⟩
      go_wp2_with fail
      go_ret2
      exact ⟨none, 0, rfl, ⟨by simp [bools], by simp [bools]⟩, hB⟩
    · rw [h] at HV
      have hmI : (1000 : Int) < (m : Int) := by omega
      go_enter Tryd.func17, Tryd.ntmps17
      go_wp2_with fail
      refine HV.out.mono ?_
      rintro e w0 ⟨rfl, hB⟩
      go_wp2_with fail
      go_ret2
      exact ⟨none, 0, rfl, ⟨by simp [bools], by simp [bools]⟩, hB⟩
set_option maxHeartbeats 2000000 in
set_option maxRecDepth 100000 in
theorem rtaint_any (ao ro : Option Addr) (cap rc : Nat) (L : List Ent) (R : List ByteArray) (w : World) (hE : Ents w ao L) (hS : Small L) (hRo : SlV w ro (strsV R)) (hR : R.length ≤ 100000) :
    Calls Tryd.prog 18 #[.slice ao L.length cap, .slice ro R.length rc] w (StrsPost (taintR L R) w) := by
  have hS1 := hS.1
  unfold taintR
  by_cases hj : judB L R = true
  · rw [if_pos hj]
    have HJ := hid (rsup_any ao ro cap rc L R w hE hS hRo hR)
    have hsup : supR L R = (supL L R, 0) := by unfold supR; rw [if_pos hj]
    rw [hsup] at HJ
    have hsl := supL_len L R
    have HRO := hid hRo
    clear hsup hRo
    generalize hn : L.length = n at *
    have HN := hid hn
    have HSL0 := hid hsl
    clear hn hsl
    have HRL := hid hR
    generalize hm : R.length = m at *
    have HM := hid hm
    clear hm
    go_enter Tryd.func18, Tryd.ntmps18
    go_wp2_with fail
    refine HJ.out.mono ?_
    rintro e w1 ⟨sbo, sbc, rfl, hsb, hB⟩
    simp only [HSL0.out]
    have hm0 := Mine.start (E := 9) (Below.refl w1.heap.size w1) (Nat.le_refl _)
    go_wp2_with fail
    go_loopw [8, 9] (fun s9 s20 wr => ∃ k : Nat, s20 = .int .i64 k ∧ k ≤ n ∧ Mine w1.heap.size w1 wr 9 s9 (strsV (((L.take k).filter (taintB L R)).map Ent.id))) (fun _ s20 _ => n - (intOf s20).toNat)
    case atStart => exact ⟨0, rfl, by omega, by simpa [strsV] using hm0⟩
    case round =>
      clear hm0
      obtain ⟨k, rfl, hk, hm⟩ := hrel
      by_cases hkn : k < n
      · obtain ⟨e, he⟩ : ∃ t, L[k]? = some t := ⟨_, List.getElem?_eq_getElem (by rw [HN.out]; omega)⟩
        have hBw := hm.below
        obtain ⟨b, off, ea, hb, a0, a1⟩ := (hE.below (hB.trans (hBw.mono hB.size))).at he
        subst ea
        obtain ⟨b5, o5, e1, _, cs⟩ := (hsb.below hBw).cell k (.bool (supB L R e.id)) (by unfold bools; rw [List.getElem?_map, supL_get he]; rfl)
        subst e1
        have hq3 := rin_any ro rc R e.id wr ((HRO.out.below hB).below hBw) (by rw [HM.out]; exact HRL.out)
        rw [HM.out] at hq3
        have HT : Hid (((L.take (k + 1)).filter (taintB L R)).map Ent.id = ((L.take k).filter (taintB L R)).map Ent.id ++ if taintB L R e = true then [e.id] else []) := by
          unfold Hid
          rw [List.take_add_one, he, List.filter_append, List.map_append]
          by_cases h : taintB L R e = true <;> simp [h]
        have HLEN := hid (show (strsV (((L.take k).filter (taintB L R)).map Ent.id)).length ≤ k by
          unfold strsV
          rw [List.length_map, List.length_map]
          have := List.length_filter_le (taintB L R) (L.take k)
          rw [List.length_take] at this
          omega)
        have htb : taintB L R e = (!(decide (e.id ∈ R)) && !(supB L R e.id)) := by unfold taintB; congr
        have HTB := hid htb
        clear htb he hb a1
        generalize decide (e.id ∈ R) = g at *
        generalize supB L R e.id = s at *
        have hkI : (k : Int) < (n : Int) := by omega
        cases s with
        | true =>
          rw [HTB.out] at HT
          simp only [Bool.not_true, Bool.and_false, Bool.false_eq_true, if_false, List.append_nil] at HT
          go_wp2_with fail
          go_roundw
          case rel => exact ⟨k + 1, by go_num, by omega, by rw [HT.out]; exact hm⟩
          case measure => simp [intOf]; omega
        | false =>
          cases g with
          | true =>
            rw [HTB.out] at HT
            simp only [Bool.not_true, Bool.false_and, Bool.false_eq_true, if_false, List.append_nil] at HT
            go_wp2_with fail
            refine hq3.mono ?_
            rintro e' w2 ⟨rfl, rfl⟩
            go_wp2_with fail
            go_roundw
            case rel => exact ⟨k + 1, by go_num, by omega, by rw [HT.out]; exact hm⟩
            case measure => simp [intOf]; omega
          | false =>
            rw [HTB.out] at HT
            simp only [Bool.not_false, Bool.and_self, if_true] at HT
            have hlx := HLEN.out
            have hl1 : (strsV (((L.take k).filter (taintB L R)).map Ent.id)).length + 1 ≤ maxLen := by unfold maxLen; omega
            have hl2 : ((strsV (((L.take k).filter (taintB L R)).map Ent.id)).length + 1) * 16 ≤ 140737488355328 := by omega
            generalize ((L.take k).filter (taintB L R)).map Ent.id = X at *
            clear hlx
            go_wp2_with fail
            refine hq3.mono ?_
            rintro e' w2 ⟨rfl, rfl⟩
            go_wp2_with (at_builtin; refine wpl_app1 rfl _ _ 23 rfl 9 _ _ Tryd.ulStrs Tryd.inStr rfl _ _ _ _ hm rfl _ rfl rfl hl1 hl2 ?_; intro g1 cap1 w2 hm1 hg1 hB1 hat1)
            go_roundw
            case rel => exact ⟨k + 1, by go_num, by omega, by rw [HT.out]; simpa [strsV] using hm1⟩
            case measure => simp [intOf]; omega
      · have hke : L.take k = L := List.take_of_length_le (by rw [HN.out]; omega)
        rw [hke] at hm
        clear hke
        obtain ⟨ao', cap', rfl, hsl, _⟩ := hm.slv
        have HBm := hid hm.below
        have HSL := hid hsl
        have hnl : ao' = none → cap' = 0 := fun e => by
          subst e
          rcases hm.own.2 with ⟨e1, _⟩ | ⟨g, c, cur, e1, _⟩
          · injection e1
          · injection e1 with h1; cases h1
        have HNL := hid hnl
        clear hm hsl hnl
        go_wp2_with fail
        go_ret2
        refine ⟨ao', cap', ?_, HSL.out, hB.trans (HBm.out.mono hB.size), HNL.out⟩
        show Ending.returned (.tuple #[.slice ao' (strsV (taintL L R)).length cap', .int .i64 0]) = _
        unfold strsV
        rw [List.length_map]
  · rw [if_neg hj]
    have HJ := hid (rsup_any ao ro cap rc L R w hE hS hRo hR)
    have hsup : supR L R = ([], 1) := by unfold supR; rw [if_neg hj]
    rw [hsup] at HJ
    clear hj hsup
    generalize L.length = n at *
    generalize R.length = m at *
    go_enter Tryd.func18, Tryd.ntmps18
    go_wp2_with fail
    refine HJ.out.mono ?_
    rintro e w1 ⟨sbo, sbc, rfl, hsb, hB⟩
    simp only [List.length_nil]
    go_wp2_with fail
    go_ret2
    exact ⟨none, 0, rfl, ⟨by simp [strsV], by simp [strsV]⟩, hB, fun _ => rfl⟩
end Go.Proofs.YtgkgpfennlkcnaaDoor
namespace Go.Proofs.YtgkgpfennlkcnaaDoor
open Go.RowKit

/-! ### at whatever world the region's order has come to -/
theorem bel_al {w W : World} (h : Below w.heap.size w W) (o : Obj) : Below w.heap.size w (W.alloc o) := h.alloc h.size o
theorem bel_then {w W w' : World} (h2 : Below W.heap.size W w') (h : Below w.heap.size w W) : Below w.heap.size w w' := h.trans (h2.mono h.size)
theorem z_fact {W w' : World} {T : TypeId} {l : List Value} {G : Prop} {z : Nat} (B8 : Below W.heap.size W w') (h : Blk W z T l) (k : Blk w' z T l → G) : G := k (h.below B8 h.lt)
theorem bel_dr {w W : World} (h : Below w.heap.size w W) : Below w.heap.size w W.drew := h.drew
theorem own_new {W : World} {B e : Nat} (E : TypeId) (sz : Nat) (h1 : B ≤ W.heap.size) (h2 : W.heap.size = e) : (W.alloc (.cells #[] E)).ownsRow B E sz (.slice (some ⟨e, 0, none⟩) 0 0) 0 [] := by
  subst h2
  exact ⟨by simp, .inr ⟨W.heap.size, 0, #[], rfl, h1, by show (W.heap.push _)[W.heap.size]? = _; simp, Nat.le_refl _, by simp, by simp, by simp⟩⟩
theorem own_al {W : World} {B n sz : Nat} {E : TypeId} {v : Value} {xs : List Value} (h : W.ownsRow B E sz v n xs) (o : Obj) : (W.alloc o).ownsRow B E sz v n xs := h.alloc o
theorem own_dr {W : World} {B n sz : Nat} {E : TypeId} {v : Value} {xs : List Value} (h : W.ownsRow B E sz v n xs) : W.drew.ownsRow B E sz v n xs := h
theorem sl_al {W : World} {ao : Option Addr} {l : List Value} (h : SlV W ao l) (o : Obj) : SlV (W.alloc o) ao l := h.below (below_alloc _ _)
theorem sl_new {W : World} {e : Nat} (c : Array Value) (E : TypeId) (h : c.size ≤ 1000) (h2 : W.heap.size = e) : SlV (W.alloc (.cells c E)) (some ⟨e, 0, none⟩) c.toList := by subst h2; exact slv_made W c E h
theorem blk_dr {W : World} {b : Nat} {T : TypeId} {l : List Value} (h : Blk W b T l) : Blk W.drew b T l := h
theorem sl_gr {W w' : World} {e : Nat} (hg : W.grownBy w' (Value.slice (some ⟨e, 0, none⟩) 0 0).ownBlock) : ∀ (s : Nat) (l : List Value), s ≠ e → SlV W (some ⟨s, 0, none⟩) l → SlV w' (some ⟨s, 0, none⟩) l :=
  fun s l hs h => h.grown hg (fun b off q k => by
    have k1 : e = b := by simpa [Value.ownBlock] using k
    cases q
    exact hs k1.symm)
theorem blk_gr {W w' : World} {B n sz : Nat} {E : TypeId} {v : Value} {xs : List Value} (h : W.ownsRow B E sz v n xs) (hg : W.grownBy w' v.ownBlock) : ∀ (z : Nat) (T : TypeId) (l : List Value), T ≠ E → Blk W z T l → Blk w' z T l :=
  fun z T l hT hz => hz.grown hg (fun q => by
    rcases h.2 with ⟨e, _⟩ | ⟨g, cap, cur, hv, _, hh, _⟩
    · rw [e] at q; cases q
    · rw [hv] at q
      have k1 : z = g := by simpa [Value.ownBlock] using q
      subst k1
      unfold Blk at hz
      rw [hz] at hh
      cases hh
      exact hT rfl)
/-- as step_appsN; behind it stand what is below, and the blocks of other types -/
theorem step_appsB {P : Program} {ops : Array Oper} {o : Oper} {a : Act} {w : World} {K : Act → World → Prop} {Q : Exit → Act → World → Prop} {G : Prop} (hgd : o.guard = none) (s x : Operand) (T : TypeId)
    (ho : o.op = .call { callee := .builtin .append, args := #[s, x], argTypes := #[T, T] })
    (E : TypeId) (i : TypeInfo) (z : Value) (sz bytes : Nat) (ht : P.underlying T = some (.slice E)) (hi : P.info? E = some i) (hz : i.zero = some z) (hsize : i.size = sz) (hby : i.bytes = bytes) (hzs : z.cells.size = sz) (hsz : 0 < sz)
    (w0 : World) (v : Value) (n : Nat) (xs : List Value) (hs : a.eval s = v) (ao : Option Addr) (c m : Nat) (vs : List Value) (hx : a.eval x = .slice ao m c) (hvl : vs.length = m * sz) (hnone : ao = none → c = 0) (h1 : ∀ u ∈ vs, u.oneCell' = true)
    (k : Nat) (hk : n + m = k) (hlen : k ≤ maxLen) (hbytes : k * bytes ≤ 140737488355328) (hB : Below w0.heap.size w0 w) (hown : w.ownsRow w0.heap.size E sz v n xs) (hv : SlV w ao vs)
    (h : ∀ ao' cap' w', w'.ownsRow w0.heap.size E sz (.slice ao' k cap') k (xs ++ vs) → w.grownBy w' v.ownBlock → Below w0.heap.size w0 w' → (∀ (z : Nat) (T : TypeId) (l : List Value), T ≠ E → Blk w z T l → Blk w' z T l) → K (a.put o.dst (.slice ao' k cap')) w') :
    if Region.wanted o (yielded ops a.tmps) = true then Oper.wp P o a w K Q else G :=
  step_appsN hgd s x T ho E i z sz bytes ht hi hz hsize hby hzs hsz w0.heap.size v n xs hs hown ao c m vs hvl hv hnone h1 hx k hk hlen hbytes hB.size
    (fun ao' cap' w' h2 h3 => h ao' cap' w' h2 h3 (hB.grown h3 hB.size (fun q hq => (hown.lt q hq).1)) (blk_gr hown h3))
end Go.Proofs.YtgkgpfennlkcnaaDoor
namespace Go.Proofs.YtgkgpfennlkcnaaDoor
open Go.RowKit

/-! ### the rounds, step by step -/
def pick1 (P : List En) (C : List (List ByteArray)) (id : ByteArray) (g : List ByteArray) (c : ByteArray) : List ByteArray :=
  if chAt C (idx P c) = [] then g else if g = [] ∨ cmpCh (chAt C (idx P c) ++ [id]) g < 0 then chAt C (idx P c) ++ [id] else g
theorem pick_snoc (P : List En) (C : List (List ByteArray)) (id c : ByteArray) : ∀ (cs : List ByteArray) (g : List ByteArray), pick P C id g (cs ++ [c]) = pick1 P C id (pick P C id g cs) c
  | [], g => by
    simp only [List.nil_append, pick, pick1]
    rfl
  | d :: cs, g => by
    simp only [List.cons_append, pick]
    split
    · exact pick_snoc P C id c cs g
    · split
      · exact pick_snoc P C id c cs _
      · exact pick_snoc P C id c cs g
theorem pick_take {P : List En} {C : List (List ByteArray)} {id : ByteArray} {cs : List ByteArray} {g : List ByteArray} {k : Nat} {c : ByteArray} (h : cs[k]? = some c) : pick P C id g (cs.take (k + 1)) = pick1 P C id (pick P C id g (cs.take k)) c := by
  rw [List.take_add_one, h]
  exact pick_snoc P C id c _ g
theorem pick_len {P : List En} {C : List (List ByteArray)} {id : ByteArray} {r : Nat} : ∀ (cs : List ByteArray) (g : List ByteArray), (∀ c ∈ cs, chAt C (idx P c) ≠ [] → (chAt C (idx P c)).length = r) → (g ≠ [] → g.length = r + 1) → pick P C id g cs ≠ [] → (pick P C id g cs).length = r + 1
  | [], g, _, hg, h => by simp only [pick] at h ⊢; exact hg h
  | c :: cs, g, hc, hg, h => by
    simp only [pick] at h ⊢
    have hc' : ∀ d ∈ cs, chAt C (idx P d) ≠ [] → (chAt C (idx P d)).length = r := fun d hd => hc d (List.mem_cons_of_mem _ hd)
    by_cases h1 : chAt C (idx P c) = []
    · rw [if_pos h1] at h ⊢
      exact pick_len cs g hc' hg h
    · rw [if_neg h1] at h ⊢
      by_cases h2 : g = [] ∨ cmpCh (chAt C (idx P c) ++ [id]) g < 0
      · rw [if_pos h2] at h ⊢
        exact pick_len cs _ hc' (fun _ => by rw [List.length_append, hc c List.mem_cons_self h1]; rfl) h
      · rw [if_neg h2] at h ⊢
        exact pick_len cs g hc' hg h
theorem iter_len {P : List En} : ∀ (n : Nat) (C : List (List ByteArray)), C.length = P.length → (iter (roundM P) n C).length = P.length
  | 0, _, h => h
  | n + 1, C, h => iter_len n _ (roundM_len h)
/-- the chains of an unknown entry's causes are all as long -/
theorem cand_len {P : List En} (hd : Dist P) (hin : ∀ e ∈ P, ∀ c ∈ e.cs, ∃ d ∈ P, d.id = c) {r : Nat} {C : List (List ByteArray)} (hC : C = iter (roundM P) r (List.replicate P.length [])) {i : Nat} {e : En} (he : P[i]? = some e) (h0 : chAt C i = []) :
    ∀ c ∈ e.cs, chAt C (idx P c) ≠ [] → (chAt C (idx P c)).length = r := by
  intro c hc hk
  cases r with
  | zero =>
    exfalso
    apply hk
    subst hC
    unfold chAt iter
    rw [List.getD, List.getElem?_replicate]
    split <;> rfl
  | succ s =>
    obtain ⟨h1, _⟩ := known_iter hd hin s
    rw [← hC] at h1
    obtain ⟨d, hdm, rfl⟩ := hin e (List.mem_of_getElem? he) c hc
    obtain ⟨j, hj⟩ := List.mem_iff_getElem?.1 hdm
    rw [idx_of hd hj] at hk ⊢
    have hlong : ∀ y, Ch P y e.id → s + 1 < y.length := by
      rcases h1 i e he with ⟨_, h2⟩ | ⟨h2, _⟩
      · exact h2
      · have := h2.1.pos
        rw [h0] at this
        simp at this
    rcases h1 j d hj with ⟨h2, _⟩ | ⟨h2, h3⟩
    · exact absurd h2 hk
    · have := hlong _ (.more e (List.mem_of_getElem? he) _ _ hc h2.1)
      simp at this
      omega
/-- in the midst of a round -/
structure MidC (P : List En) (C N : List (List ByteArray)) (i : Nat) : Prop where
  len : N.length = P.length
  at_ : ∀ j, chAt N j = if j < i then chAt (roundM P C) j else chAt C j
theorem MidC.start {P : List En} {C : List (List ByteArray)} (h : C.length = P.length) : MidC P C C 0 := ⟨h, fun j => by simp⟩
theorem chAt_set {C : List (List ByteArray)} {i j : Nat} {x : List ByteArray} (h : i < C.length) : chAt (C.set i x) j = if i = j then x else chAt C j := by
  unfold chAt
  by_cases q : i = j
  · subst q
    simp [h]
  · simp [q]
theorem MidC.step {P : List En} {C N : List (List ByteArray)} {i : Nat} (h : MidC P C N i) (hi : i < P.length) {x : List ByteArray} (hx : x = chAt (roundM P C) i) : MidC P C (N.set i x) (i + 1) := by
  refine ⟨by rw [List.length_set]; exact h.len, fun j => ?_⟩
  rw [chAt_set (by rw [h.len]; exact hi), h.at_ j]
  by_cases q : i = j
  · subst q
    rw [if_pos rfl, if_pos (by omega), hx]
  · rw [if_neg q]
    by_cases q2 : j < i
    · rw [if_pos q2, if_pos (by omega)]
    · rw [if_neg q2, if_neg (by omega)]
theorem MidC.keep {P : List En} {C N : List (List ByteArray)} {i : Nat} (h : MidC P C N i) (hx : chAt C i = chAt (roundM P C) i) : MidC P C N (i + 1) := by
  refine ⟨h.len, fun j => ?_⟩
  rw [h.at_ j]
  by_cases q : i = j
  · subst q
    rw [if_neg (by omega), if_pos (by omega), hx]
  · by_cases q2 : j < i
    · rw [if_pos q2, if_pos (by omega)]
    · rw [if_neg q2, if_neg (by omega)]
theorem chs_ext : ∀ {A B : List (List ByteArray)}, A.length = B.length → (∀ j, chAt A j = chAt B j) → A = B
  | [], [], _, _ => rfl
  | [], _ :: _, h, _ => by simp at h
  | _ :: _, [], h, _ => by simp at h
  | a :: A, b :: B, h, k => by
    have h0 : a = b := k 0
    have h1 : A = B := chs_ext (by simpa using h) (fun j => k (j + 1))
    rw [h0, h1]
theorem MidC.full {P : List En} {C N : List (List ByteArray)} (hC : C.length = P.length) (h : MidC P C N P.length) : N = roundM P C := by
  refine chs_ext (by rw [h.len, roundM_len hC]) (fun j => ?_)
  rw [h.at_ j]
  by_cases q : j < P.length
  · rw [if_pos q]
  · rw [if_neg q]
    unfold chAt
    rw [List.getD, List.getD, List.getElem?_eq_none (by omega), List.getElem?_eq_none (by rw [roundM_len hC]; omega)]
/-! ### the table of chains -/
/-- rows of strings that lie in none of the blocks N -/
structure RowC (w : World) (N : Nat → Prop) (v : Value) (x : List ByteArray) : Prop where
  ex : ∃ ao cap, v = .slice ao x.length cap ∧ SlV w ao (strsV x) ∧ (x = [] → ao = none) ∧ (∀ q off, ao = some ⟨q, off, none⟩ → ¬ N q)
theorem RowC.nil (w : World) (N : Nat → Prop) : RowC w N (.slice none 0 0) [] := ⟨none, 0, rfl, ⟨by simp [strsV], by simp [strsV]⟩, fun _ => rfl, fun _ _ h => by cases h⟩
theorem RowC.chg {w w' : World} {N : Nat → Prop} {v : Value} {x : List ByteArray} (h : RowC w N v x) (hc : Chg N w w') : RowC w' N v x := by
  obtain ⟨ao, cap, h1, h2, h3, h4⟩ := h.ex
  exact ⟨ao, cap, h1, h2.chg hc (fun b off q _ => h4 b off q), h3, h4⟩
theorem RowC.below {w w' : World} {N : Nat → Prop} {v : Value} {x : List ByteArray} (h : RowC w N v x) (hB : Below w.heap.size w w') : RowC w' N v x := by
  obtain ⟨ao, cap, h1, h2, h3, h4⟩ := h.ex
  exact ⟨ao, cap, h1, h2.below hB, h3, h4⟩
/-- a block that is made now is no row's -/
theorem RowC.more {w : World} {N N' : Nat → Prop} {v : Value} {x : List ByteArray} (h : RowC w N v x) (hn : ∀ q, N' q → N q ∨ w.heap.size ≤ q) : RowC w N' v x := by
  obtain ⟨ao, cap, h1, h2, h3, h4⟩ := h.ex
  refine ⟨ao, cap, h1, h2, h3, fun q off e hq => ?_⟩
  rcases hn q hq with k | k
  · exact h4 q off e k
  · cases x with
    | nil => rw [h3 rfl] at e; cases e
    | cons a x =>
      obtain ⟨b, off', e', hb, _⟩ := h2.cell 0 (.string a) rfl
      rw [e] at e'
      cases e'
      omega
structure ChT (w : World) (N : Nat → Prop) (b : Nat) (C : List (List ByteArray)) : Prop where
  ex : ∃ vs : List Value, Blk w b 23 vs ∧ C.length ≤ vs.length ∧ ∀ (i : Nat) (x : List ByteArray), C[i]? = some x → ∃ v, vs[i]? = some v ∧ RowC w N v x
theorem ChT.lt {w : World} {N : Nat → Prop} {b : Nat} {C : List (List ByteArray)} (h : ChT w N b C) : b < w.heap.size := by
  obtain ⟨vs, h1, _⟩ := h.ex
  exact h1.lt
theorem ChT.below {w w' : World} {N : Nat → Prop} {b : Nat} {C : List (List ByteArray)} (h : ChT w N b C) (hB : Below w.heap.size w w') : ChT w' N b C := by
  obtain ⟨vs, h1, h2, h3⟩ := h.ex
  exact ⟨vs, h1.below hB h1.lt, h2, fun i x hx => by obtain ⟨v, a, c⟩ := h3 i x hx; exact ⟨v, a, c.below hB⟩⟩
theorem ChT.more {w : World} {N N' : Nat → Prop} {b : Nat} {C : List (List ByteArray)} (h : ChT w N b C) (hn : ∀ q, N' q → N q ∨ w.heap.size ≤ q) : ChT w N' b C := by
  obtain ⟨vs, h1, h2, h3⟩ := h.ex
  exact ⟨vs, h1, h2, fun i x hx => by obtain ⟨v, a, c⟩ := h3 i x hx; exact ⟨v, a, c.more hn⟩⟩
theorem ChT.cell {w : World} {N : Nat → Prop} {b : Nat} {C : List (List ByteArray)} (h : ChT w N b C) {i : Nat} (hi : i < C.length) : ∃ v, w.cell? ⟨b, i, none⟩ = some v ∧ RowC w N v (chAt C i) := by
  obtain ⟨vs, h1, h2, h3⟩ := h.ex
  have hx : C[i]? = some (chAt C i) := by unfold chAt; rw [List.getD, List.getElem?_eq_getElem hi]; rfl
  obtain ⟨v, a, c⟩ := h3 i _ hx
  exact ⟨v, (h1.cell i).trans a, c⟩
theorem ChT.free {w : World} {N : Nat → Prop} {b : Nat} {C : List (List ByteArray)} (h : ChT w N b C) (i : Nat) : w.frozen? ⟨b, i, none⟩ = false := by
  obtain ⟨vs, h1, _⟩ := h.ex
  exact h1.free i
theorem ChT.set {w : World} {N : Nat → Prop} {b : Nat} {C : List (List ByteArray)} (h : ChT w N b C) (hN : N b) {i : Nat} {v : Value} {x : List ByteArray} (hr : RowC w N v x) : ChT (w.setCell ⟨b, i, none⟩ v) N b (C.set i x) := by
  obtain ⟨vs, h1, h2, h3⟩ := h.ex
  have hc : Chg N w (w.setCell ⟨b, i, none⟩ v) := (Chg.refl N w).set (p := ⟨b, i, none⟩) hN _
  refine ⟨vs.set i v, h1.set i v, by rw [List.length_set, List.length_set]; exact h2, fun j y hy => ?_⟩
  rw [List.getElem?_set] at hy
  split at hy
  · rename_i q
    subst q
    split at hy
    · cases hy
      exact ⟨v, by rw [List.getElem?_set, if_pos rfl, if_pos (by omega)], hr.chg hc⟩
    · cases hy
  · rename_i q
    obtain ⟨u, a, c⟩ := h3 j y hy
    exact ⟨u, by rw [List.getElem?_set, if_neg q]; exact a, c.chg hc⟩
theorem ChT.other {w : World} {N : Nat → Prop} {b b2 : Nat} {C : List (List ByteArray)} (h : ChT w N b C) (hN : N b2) (hne : b ≠ b2) (i : Nat) (v : Value) : ChT (w.setCell ⟨b2, i, none⟩ v) N b C := by
  obtain ⟨vs, h1, h2, h3⟩ := h.ex
  have hc : Chg N w (w.setCell ⟨b2, i, none⟩ v) := (Chg.refl N w).set (p := ⟨b2, i, none⟩) hN _
  exact ⟨vs, h1.other ⟨b2, i, none⟩ hne v, h2, fun j y hy => by obtain ⟨u, a, c⟩ := h3 j y hy; exact ⟨u, a, c.chg hc⟩⟩
theorem ChT.made (w : World) (N : Nat → Prop) (n : Nat) : ChT (w.alloc (.cells (madeCells #[.slice none 0 0] n) 23)) N w.heap.size (List.replicate n []) := by
  have hb := Blk.new w (madeCells #[Value.slice none 0 0] n) 23
  have hm : (madeCells #[Value.slice none 0 0] n).toList = List.replicate n (.slice none 0 0) := madeCells_one (Value.slice none 0 0) n rfl
  rw [hm] at hb
  refine ⟨_, hb, by simp, fun i x hx => ⟨.slice none 0 0, ?_, ?_⟩⟩
  · rw [List.getElem?_replicate] at hx ⊢
    split at hx
    · rename_i q; rw [if_pos q]
    · cases hx
  · rw [List.getElem?_replicate] at hx
    split at hx
    · cases hx; exact RowC.nil _ _
    · cases hx
end Go.Proofs.YtgkgpfennlkcnaaDoor
namespace Go.Proofs.YtgkgpfennlkcnaaDoor
open Go.RowKit

theorem ChT.slv {w : World} {N : Nat → Prop} {b : Nat} {C : List (List ByteArray)} (h : ChT w N b C) (hl : C.length ≤ maxLen) : ∃ us : List Value, us.length = C.length ∧ SlV w (some ⟨b, 0, none⟩) us ∧ (∀ u ∈ us, u.oneCell' = true) ∧ ∀ (i : Nat) (x : List ByteArray), C[i]? = some x → ∃ v, us[i]? = some v ∧ RowC w N v x := by
  obtain ⟨vs, h1, h2, h3⟩ := h.ex
  refine ⟨vs.take C.length, by rw [List.length_take]; omega, ⟨by rw [List.length_take]; omega, fun i x hx => ⟨b, 0, rfl, h1.lt, ?_⟩⟩, fun u hu => ?_, fun i x hx => ?_⟩
  · rw [h1.cell, Nat.zero_add]
    rw [List.getElem?_take] at hx
    split at hx
    · exact hx
    · cases hx
  · obtain ⟨i, hi⟩ := List.mem_iff_getElem?.1 hu
    rw [List.getElem?_take] at hi
    split at hi
    · rename_i hlt
      obtain ⟨v, a, c⟩ := h3 i _ (List.getElem?_eq_getElem hlt)
      rw [a] at hi
      cases hi
      obtain ⟨ao, cap, e, _⟩ := c.ex
      rw [e]; rfl
    · cases hi
  · obtain ⟨v, a, c⟩ := h3 i x hx
    have := (List.getElem?_eq_some_iff.1 hx).1
    exact ⟨v, by rw [List.getElem?_take, if_pos this]; exact a, c⟩
/-- the copy of a table -/
theorem ChT.copied {w w' : World} {N N' : Nat → Prop} {v : Value} {n : Nat} {us : List Value} {C : List (List ByteArray)} (hm : MineN 1 w.heap.size w w' 23 v n ([] ++ us)) (hn : 0 < n) (hC : C.length = n) (hr : ∀ (i : Nat) (x : List ByteArray), C[i]? = some x → ∃ v, us[i]? = some v ∧ RowC w N v x) (hN : ∀ q, N' q → N q ∨ w.heap.size ≤ q) :
    ∃ g cap, v = .slice (some ⟨g, 0, none⟩) n cap ∧ w.heap.size ≤ g ∧ ChT w' N' g C := by
  obtain ⟨g, cap, cur, e, hg, hb, h1, h2, h3, h4⟩ := hm.open hn
  refine ⟨g, cap, e, hg, cur, hb, ?_, fun i x hx => ?_⟩
  · apply Classical.byContradiction
    intro q
    have hi : cur.length < C.length := by omega
    have := h4 cur.length (by rw [h3]; omega)
    rw [List.getElem?_eq_none (Nat.le_refl _), List.nil_append] at this
    obtain ⟨u, a, _⟩ := hr cur.length _ (List.getElem?_eq_getElem hi)
    rw [a] at this
    cases this
  · have hi := (List.getElem?_eq_some_iff.1 hx).1
    obtain ⟨u, a, c⟩ := hr i x hx
    exact ⟨u, by rw [h4 i (by rw [h3]; omega), List.nil_append]; exact a, (c.more hN).below hm.below⟩
theorem RowC.fresh {w : World} {N : Nat → Prop} {ao : Option Addr} {cap n : Nat} {x : List ByteArray} (hn : x.length = n) (hx : x ≠ []) (h : SlV w ao (strsV x)) (hf : ∀ q off, ao = some ⟨q, off, none⟩ → ¬ N q) : RowC w N (.slice ao n cap) x :=
  ⟨ao, cap, by rw [hn], h, fun q => absurd q hx, hf⟩
theorem set_self {N : List (List ByteArray)} {i : Nat} (h : i < N.length) (h0 : chAt N i = []) : N.set i [] = N := by
  refine chs_ext (by simp) (fun j => ?_)
  rw [chAt_set h]
  split
  · rename_i q; rw [← q, h0]
  · rfl
theorem link_known {P : List En} {C : List (List ByteArray)} {i : Nat} {e : En} (hC : C.length = P.length) (he : P[i]? = some e) (h : chAt C i ≠ []) : chAt C i = chAt (roundM P C) i := by
  rw [roundM_get hC he]
  unfold linkM
  rw [if_pos h]
theorem link_new {P : List En} {C : List (List ByteArray)} {i : Nat} {e : En} (hC : C.length = P.length) (he : P[i]? = some e) (h : chAt C i = []) : pick P C e.id (if e.cs = [] then [e.id] else []) e.cs = chAt (roundM P C) i := by
  rw [roundM_get hC he]
  unfold linkM
  simp [h]
theorem chs_len (n : Nat) : (List.replicate n ([] : List ByteArray)).length = n := by simp
set_option maxHeartbeats 8000000 in
set_option maxRecDepth 100000 in
theorem rbec_any (ao : Option Addr) (cap : Nat) (L : List Ent) (id : ByteArray) (w : World) (hE : Ents w ao L) (hS : Small L) : Calls Tryd.prog 19 #[.slice ao L.length cap, .string id] w (BecPost L id w) := by
  have HV := hid (rvalid_any ao cap L w hE hS)
  have hS1 := hS.1
  cases hvb : validB L with
  | false =>
    rw [hvb] at HV
    have HBE : Hid (BecIs L id [] 1) := hid (.inl ⟨hvb, rfl, rfl⟩)
    clear hvb
    generalize hn : L.length = n at *
    clear hn
    go_enter Tryd.func19, Tryd.ntmps19
    go_wp2_with fail
    refine HV.out.mono ?_
    rintro e w0 ⟨rfl, hB⟩
    go_wp2_with fail
    go_ret2
    exact ⟨[], 1, none, 0, HBE.out, rfl, ⟨by simp [strsV], by simp [strsV]⟩, hB⟩
  | true =>
    rw [hvb] at HV
    have hv : ValidL L := validB_iff.1 hvb
    have hn1 := hv.1
    have HBM := hid (becM_is hv)
    have HDI := hid (ps_dist hv.2.1)
    have HIN := hid (right_in hv)
    have HIX := hid (fun (s : ByteArray) (w : World) (h : Ents w ao L) => ridx_any ao cap L s w h hS1)
    have hpl : (ps L).length = L.length := by simp [ps]
    have HVL := hid hv
    have HIXN := hid (fun (c : ByteArray) => ixI_yes (L := L) (c := c))
    clear hvb hv
    generalize hn : L.length = n at *
    have HN := hid hn
    have HPL := hid hpl
    clear hn hpl
    have hmk := fun w => run_make_row' (P := Tryd.prog) 54 23 (.slice none 0 0) 24 Tryd.ulChs Tryd.inStrs rfl .i64 .i64 n (by omega) (by omega) w
    go_enter Tryd.func19, Tryd.ntmps19
    go_wp2_with fail
    refine HV.out.mono ?_
    rintro e w0 ⟨rfl, hB⟩
    have hEr := hE.below hB
    clear HV hE
    go_wp2_with fail
    have hct : ChT (w0.alloc (.cells (madeCells #[.slice none 0 0] n) 23)) (fun q => q = w0.heap.size) w0.heap.size (List.replicate n []) := ChT.made w0 _ n
    have hB0 : Below w0.heap.size w0 (w0.alloc (.cells (madeCells #[.slice none 0 0] n) 23)) := below_alloc _ _
    obtain ⟨B0, hBe⟩ : ∃ b, w0.heap.size = b := ⟨_, rfl⟩
    rw [hBe] at hct hB0 ⊢
    clear hmk
    generalize w0.alloc (.cells (madeCells #[.slice none 0 0] n) 23) = w1 at *
    go_loopw [6, 7] (fun s6 s7 wr => ∃ (r cb cc : Nat) (C : List (List ByteArray)), s6 = .slice (some ⟨cb, 0, none⟩) n cc ∧ s7 = .int .i64 r ∧ r ≤ n ∧ Hid (C = iter (roundM (ps L)) r (List.replicate n [])) ∧ Hid (C.length = n) ∧ ChT wr (fun q => q = cb) cb C ∧ B0 ≤ cb ∧ Below B0 w0 wr) (fun _ s7 _ => n - (intOf s7).toNat)
    case atStart => exact ⟨0, B0, n, List.replicate n [], rfl, rfl, by omega, hid rfl, hid (by simp), hct, Nat.le_refl _, hB0⟩
    case round =>
      clear hct hB0
      obtain ⟨r, cb, cc, C, rfl, rfl, hr, HC, HCL, hct, hcb, hBr⟩ := hrel
      by_cases hrn : r < n
      · have hrI : (r : Int) < (n : Int) := by omega
        obtain ⟨us, hul, hus, hone, hrow⟩ := hct.slv (by rw [HCL.out]; unfold maxLen; omega)
        rw [HCL.out] at hul
        have hm0 : MineN 1 wr.heap.size wr (wr.alloc (.cells #[] 23)) 23 (.slice (some ⟨wr.heap.size, 0, none⟩) 0 0) 0 [] := MineN.empty (Below.refl _ _) (Nat.le_refl _)
        have husA := hus.below (below_alloc wr (.cells #[] 23))
        have hL1 : n ≤ maxLen := by unfold maxLen; omega
        have hL2 : n * 24 ≤ 140737488355328 := by omega
        have hul1 : us.length = n * 1 := by omega
        go_upto_region 8 with (at_builtin; refine wpl_appsN rfl _ _ 54 rfl 23 _ 1 24 Tryd.ulChs Tryd.inStrs rfl (by decide) _ _ _ _ _ hm0 rfl _ _ n us hul1 husA (fun h => by cases h) hone rfl n (Nat.zero_add n) hL1 hL2 ?_; intro aoT capT wt hmt hgt)
        obtain ⟨nb, nc, hve, hnb, hnt⟩ := ChT.copied (N' := fun q => q = cb ∨ q = aoT.elim 0 Addr.block) (C := C) hmt (by omega) HCL.out hrow (fun q hq => by
          rcases hq with k | k
          · exact .inl k
          · right
            obtain ⟨g, cp, cur, e, hg, _⟩ := hmt.open (by omega)
            cases e
            rw [k]
            exact hg)
        cases hve
        simp only [Option.elim_some] at hnt
        have hct2 : ChT wt (fun q => q = cb ∨ q = nb) cb C := ((hct.more (N' := fun q => q = cb ∨ q = nb) (fun q hq => by
          rcases hq with k | k
          · exact .inl k
          · right; rw [k]; exact hnb)).below hmt.below)
        have hcn : cb ≠ nb := by have := hct.lt; omega
        have hBt : Below B0 w0 wt := hBr.trans (hmt.below.mono (by have := hBr.size; omega))
        have hnb0 : B0 ≤ nb := by have := hBr.size; omega
        clear hmt hgt hus husA hm0 hrow hone hul hul1 hct hBr hL1 hL2
        go_wp2_with fail
        go_loopw [9] (fun s9 wr => ∃ (i : Nat) (N : List (List ByteArray)), s9 = .int .i64 i ∧ i ≤ n ∧ Hid (MidC (ps L) C N i) ∧ ChT wr (fun q => q = cb ∨ q = nb) cb C ∧ ChT wr (fun q => q = cb ∨ q = nb) nb N ∧ Below B0 w0 wr) (fun s9 _ => n - (intOf s9).toNat)
        case atStart => exact ⟨0, C, rfl, by omega, hid (MidC.start (by rw [HCL.out, HPL.out])), hct2, hnt, hBt⟩
        case round =>
          clear hct2 hnt hBt
          obtain ⟨i, N, rfl, hi, HMI, hct, hnt, hBi⟩ := hrel
          by_cases hin : i < n
          · have hiI : (i : Int) < (n : Int) := by omega
            obtain ⟨d, hd⟩ : ∃ x, L[i]? = some x := ⟨_, List.getElem?_eq_getElem (by rw [HN.out]; omega)⟩
            have hE2 : Ents wr ao L := hEr.below (by rw [hBe]; exact hBi)
            obtain ⟨b0, o0, ea, hb0, a0, a1⟩ := hE2.at hd
            obtain ⟨v, hv, hrc⟩ := hct.cell (i := i) (by rw [HCL.out]; exact hin)
            have HP := hid (ps_get.2 ⟨d, hd, rfl⟩)
            have HD := hid hd
            have HEOK := hid (fun (j : Nat) (c : ByteArray) (hc : d.cs[j]? = some c) => (HVL.out.2.2 i d (by rw [HN.out]; exact hin) hd j c (List.getElem?_eq_some_iff.1 hc).1 hc).1)
            have hcl20 := (HVL.out.2.1 i d (by rw [HN.out]; exact hin) hd).2.2
            clear hd
            by_cases hx0 : chAt C i = []
            · have HCAND := hid (cand_len HDI.out HIN.out (r := r) (C := C) (by rw [HC.out, HPL.out]) HP.out hx0)
              have HLN := hid (link_new (by rw [HCL.out, HPL.out]) HP.out hx0)
              have HNI : Hid (chAt N i = []) := hid (by rw [HMI.out.at_ i, if_neg (by omega)]; exact hx0)
              have HNL : Hid (N.length = n) := hid (by rw [HMI.out.len, HPL.out])
              rw [hx0] at hrc
              obtain ⟨vo, vc, rfl, _, _, _⟩ := hrc.ex
              simp only [List.length_nil] at hv
              have HX0 := hid hx0
              clear hx0 hrc
              subst ea
              obtain ⟨did, dao, dcs, dcap⟩ := d
              simp only at a0 a1 hcl20 HEOK
              simp only [Ent.p] at HCAND HLN
              generalize hcn : dcs.length = cl at *
              have HCN := hid hcn
              clear hcn
              have hfi := hnt.free i
              obtain ⟨v5, hv5, _⟩ := hnt.cell (i := i) (by rw [HNL.out]; exact hin)
              have hntA := hnt.below (below_alloc wr (.cells #[.string did] 9))
              have hctA := hct.below (below_alloc wr (.cells #[.string did] 9))
              have hfiA := hntA.free i
              obtain ⟨v6, hv6, _⟩ := hntA.cell (i := i) (by rw [HNL.out]; exact hin)
              by_cases hc0 : cl = 0
              all_goals
                have HC0 := hid hc0
                first
                  | have hcI : ((cl : Int) == 0) = true := (by rw [beq_iff_eq]; omega)
                    have HEM : Hid (dcs = []) := hid (List.eq_nil_of_length_eq_zero (by rw [HCN.out]; exact hc0))
                  | have hcI : ((cl : Int) == 0) = false := (by rw [beq_eq_false_iff_ne]; omega)
                    have HEM : Hid (dcs ≠ []) := (by unfold Hid; intro q; apply hc0; rw [← HCN.out, q]; rfl)
                clear hc0
                go_wp2_with fail
                go_loopw [10] (fun s10 wr => ∃ (k : Nat) (G : List ByteArray), s10 = .int .i64 k ∧ k ≤ cl ∧ Hid (G = pick (ps L) C did (if dcs = [] then [did] else []) (dcs.take k)) ∧ ChT wr (fun q => q = cb ∨ q = nb) cb C ∧ ChT wr (fun q => q = cb ∨ q = nb) nb (N.set i G) ∧ Below B0 w0 wr) (fun s10 _ => cl - (intOf s10).toNat)
                case atStart =>
                  first
                    | exact ⟨0, [], rfl, by omega, hid (by rw [if_neg HEM.out]; rfl), hct, by rw [set_self (by rw [HNL.out]; exact hin) HNI.out]; exact hnt, hBi⟩
                    | refine ⟨0, [did], rfl, by omega, hid (by rw [if_pos HEM.out, HEM.out]; rfl), hctA.other (.inr rfl) hcn i _, hntA.set (.inr rfl) (RowC.fresh (n := 1) rfl (by simp) (slv_made wr #[.string did] 9 (by simp)) (fun q off e => ?_)), (hBi.alloc (by have := hct.lt; omega) _).setCell (p := ⟨nb, i, none⟩) hnb0 _⟩
                      cases e
                      have h1 := hct.lt
                      have h2 := hnt.lt
                      rintro (h3 | h3) <;> omega
                case round =>
                  clear hct hnt hBi hfi hv hv5 hfiA hv6 hntA hctA a0 a1
                  obtain ⟨k, G, rfl, hk, HG, hct, hnt, hBi⟩ := hrel
                  have hE2 := hEr.below (by rw [hBe]; exact hBi)
                  obtain ⟨b1, o1, e1, hb1, a0, a1⟩ := hE2.at HD.out
                  have e2 : b0 = b1 ∧ o0 = o1 := by cases e1; exact ⟨rfl, rfl⟩
                  obtain ⟨rfl, rfl⟩ := e2
                  clear e1
                  simp only at a0 a1
                  rw [HCN.out] at a1
                  by_cases hkc : k < cl
                  · (try (exfalso; have h0 := HC0.out; omega))
                    all_goals
                      obtain ⟨c, hc⟩ : ∃ x, dcs[k]? = some x := ⟨_, List.getElem?_eq_getElem (by rw [HCN.out]; omega)⟩
                      obtain ⟨b2, o2, e2, hb2, d2⟩ := (hE2.cs _ (List.mem_of_getElem? HD.out)).cell k (.string c) (by rw [List.getElem?_map]; show (dcs[k]?).map _ = _; rw [hc]; rfl)
                      simp only at e2
                      subst e2
                      obtain ⟨y1, y2⟩ := HIXN.out c (HEOK.out k c hc)
                      have hq4 := HIX.out c wr hE2
                      rw [y1] at hq4
                      have HCL2 := hid (HCAND.out c (List.mem_of_getElem? hc))
                      have HPT := hid (pick_take (P := ps L) (C := C) (id := did) (g := if dcs = [] then [did] else []) hc)
                      have HGL : Hid (G ≠ [] → G.length = r + 1) := by
                        unfold Hid
                        intro hg
                        have hne : dcs ≠ [] := by intro q; rw [q] at hc; cases hc
                        rw [HG.out, if_neg hne] at hg ⊢
                        exact pick_len _ _ (fun x hx => HCAND.out x (List.mem_of_mem_take hx)) (fun h => absurd rfl h) hg
                      unfold pick1 at HPT
                      rw [← HG.out] at HPT
                      obtain ⟨v, hv, hrc⟩ := hct.cell (i := idx (ps L) c) (by rw [HCL.out]; exact y2)
                      have hNs : (N.set i G).length = n := by rw [List.length_set, HNL.out]
                      obtain ⟨v3, hv3, hrg⟩ := hnt.cell (i := i) (by rw [hNs]; exact hin)
                      rw [chAt_set (by rw [HNL.out]; exact hin), if_pos rfl] at hrg
                      clear hc y1 hNs
                      generalize chAt C (idx (ps L) c) = f at *
                      generalize hic : idx (ps L) c = ic at *
                      have hicI : (ic : Int) < (n : Int) := by omega
                      have hkI : (k : Int) < (cl : Int) := by omega
                      obtain ⟨fo, fc, rfl, hfs, hfn, hfa⟩ := hrc.ex
                      obtain ⟨go, gc, rfl, hgs, hgn, hga⟩ := hrg.ex
                      clear hic hb2 hrc hrg
                      by_cases hf0 : f = []
                      · have HG2 : Hid (G = pick (ps L) C did (if dcs = [] then [did] else []) (dcs.take (k + 1))) := by
                          unfold Hid
                          rw [HPT.out, if_pos hf0]
                        subst hf0
                        simp only [List.length_nil] at hv
                        go_wp2_with fail
                        refine hq4.mono ?_
                        rintro e w2 ⟨rfl, rfl⟩
                        go_wp2_with fail
                        go_roundw
                        case rel => exact ⟨k + 1, G, by go_num, by omega, HG2, hct, hnt, hBi⟩
                        case measure => simp [intOf]; omega
                      · have hfl := HCL2.out hf0
                        rw [if_neg hf0] at HPT
                        have HF0 := hid hf0
                        have hfp : 0 < f.length := List.length_pos_iff.2 hf0
                        have hfl2 : f.length ≤ 1000 := by omega
                        have HFL := hid hfl
                        clear hfl hf0
                        generalize hfln : f.length = fl at *
                        have HFN := hid hfln
                        have hnI : ¬ (fl : Int) = 0 := by omega
                        have hfb : ((fl : Int) == 0) = false := by rw [beq_eq_false_iff_ne]; omega
                        clear hfln
                        go_wp2_with fail
                        refine hq4.mono ?_
                        rintro e w2 ⟨rfl, rfl⟩
                        clear hq4
                        go_upto_region 19 with fail
                        go_cut [12] from 83 to 92 (fun s12 wx => ∃ oo oc, s12 = .slice oo (fl + 1) oc ∧ SlV wx oo (strsV (f ++ [did])) ∧ (∀ q off, oo = some ⟨q, off, none⟩ → wr.heap.size ≤ q) ∧ Below wr.heap.size wr wx)
                        case first =>
                          have hvl : (strsV f).length = fl * 1 := by unfold strsV; rw [List.length_map, HFN.out]; omega
                          have hone1 : ∀ u ∈ strsV f, u.oneCell' = true := by intro u hu; obtain ⟨s, _, rfl⟩ := List.mem_map.1 hu; rfl
                          have hone2 : ∀ u ∈ ([.string did] : List Value), u.oneCell' = true := by intro u hu; simp at hu; subst hu; rfl
                          have hfo : fo = none → fc = 0 := by
                            intro q
                            obtain ⟨x, hx⟩ : ∃ x, f[0]? = some x := ⟨_, List.getElem?_eq_getElem (by rw [HFN.out]; exact hfp)⟩
                            obtain ⟨b, off, e, _⟩ := hfs.cell 0 (.string x) (by unfold strsV; rw [List.getElem?_map, hx]; rfl)
                            rw [q] at e
                            cases e
                          have hk1 : fl ≤ maxLen := by unfold maxLen; omega
                          have hk2 : fl * 16 ≤ 140737488355328 := by omega
                          have hk3 : fl + 1 ≤ maxLen := by unfold maxLen; omega
                          have hk4 : (fl + 1) * 16 ≤ 140737488355328 := by omega
                          obtain ⟨i9, hi9, hz9, hs9, hb9⟩ := info_parts Tryd.inStr
                          have a0A : ∀ o : Obj, (wr.alloc o).cell? ⟨b0, o0 + i * 2, none⟩ = some (.string did) := fun o => ((below_alloc wr o).cell (p := ⟨b0, o0 + i * 2, none⟩) hb1).trans a0
                          clear hct hnt hBi hE2 hv3 hgs hgn hga hv
                          go_region_law
                            (first
                              | (refine step_appsB (by rfl) (.tmp 83) (.tmp 84) 23 (by rfl) 9 i9 _ 1 16 Tryd.ulStrs hi9 hz9 hs9 hb9 (by decide) (by decide) wr _ 0 [] (by rfl) fo fc fl (strsV f) (by rfl) hvl hfo hone1 fl (by omega) hk1 hk2 ?_ ?_ ?_ ?_; (repeat (first | exact Below.refl _ _ | refine bel_al ?_ _ | refine bel_dr ?_)); (repeat (first | (refine own_new 9 1 (Below.size (B := wr.heap.size) (w := wr) (by (repeat (first | exact Below.refl _ _ | refine bel_al ?_ _ | refine bel_dr ?_)))) (by (first | rfl | (simp only [World.size_alloc])))) | refine own_al ?_ _ | refine own_dr ?_)); (exact hfs.below (by (repeat (first | exact Below.refl _ _ | refine bel_al ?_ _ | refine bel_dr ?_)))); intro ao1 cp1 w5 o5 g5 B5 Z5; have S5 := sl_gr g5; have c05 := (B5.cell (p := ⟨b0, o0 + i * 2, none⟩) hb1).trans a0)
                              | (refine step_appsB (by rfl) (.tmp 85) (.tmp 91) 23 (by rfl) 9 i9 _ 1 16 Tryd.ulStrs hi9 hz9 hs9 hb9 (by decide) (by decide) wr _ fl ([] ++ strsV f) (by rfl) _ 1 1 [.string did] (by rfl) (by simp) (by intro h; cases h) hone2 (fl + 1) rfl hk3 hk4 ?_ ?_ ?_ ?_; (repeat (first | exact B5 | refine bel_al ?_ _ | refine bel_dr ?_)); (repeat (first | exact o5 | refine own_al ?_ _ | refine own_dr ?_)); (repeat (first | exact sl_new #[.string did] 9 (by simp) (by (first | rfl | (simp only [World.size_alloc]))) | refine sl_al ?_ _ | refine SlV.drew ?_ | (refine S5 _ _ (by omega) ?_))); intro ao2 cp2 w7 o7 g7 B7 Z7))
                          all_goals
                            obtain ⟨mo, mc, hmv, _, _, hms, hmf⟩ := own_caps o7
                            obtain ⟨rfl, rfl⟩ : ao2 = mo ∧ cp2 = mc := by cases hmv; exact ⟨rfl, rfl⟩
                            have hms2 : SlV w7 ao2 (strsV (f ++ [did])) := by unfold strsV at hms ⊢; rw [List.map_append]; exact hms
                            have hmf2 : ∀ q off, ao2 = some ⟨q, off, none⟩ → wr.heap.size ≤ q := fun q off e => (hmf q off e).1
                            go_wp2_with fail
                            go_meet
                            case rel => exact ⟨ao2, cp2, rfl, hms2, hmf2, B7⟩
                        case rest =>
                          obtain ⟨oo, oc, rfl, hos, hof, hB19⟩ := hcut
                          have hlt1 := hct.lt
                          have hlt2 := hnt.lt
                          replace hct := hct.below hB19
                          replace hnt := hnt.below hB19
                          replace hgs := hgs.below hB19
                          replace hv3 := (hB19.cell (p := ⟨nb, i, none⟩) hlt2).trans hv3
                          have hfi := hnt.free i
                          have hwc : B0 ≤ wc.heap.size := by have := hnt.lt; omega
                          have hBx : Below B0 w0 wc := hBi.trans (hB19.mono (by omega))
                          have hol : (f ++ [did]).length = fl + 1 := by rw [List.length_append, HFN.out]; rfl
                          have HROW := hid (RowC.fresh (w := wc) (N := fun q => q = cb ∨ q = nb) (cap := oc) hol (by simp) hos (fun q off e => by have := hof q off e; rintro (h | h) <;> omega))
                          by_cases hg0 : G = []
                          · have HG2 : Hid (f ++ [did] = pick (ps L) C did (if dcs = [] then [did] else []) (dcs.take (k + 1))) := by
                              unfold Hid
                              rw [HPT.out, if_pos (.inl hg0)]
                            subst hg0
                            simp only [List.length_nil] at hv3
                            clear hos hol
                            go_wp2_with fail
                            go_roundw
                            case rel => exact ⟨k + 1, f ++ [did], by go_num, by omega, HG2, hct.other (.inr rfl) hcn i _, by have := hnt.set (.inr rfl) (i := i) HROW.out; rwa [List.set_set] at this, hBx.setCell (p := ⟨nb, i, none⟩) hnb0 _⟩
                            case measure => simp [intOf]; omega
                          · have hgl : G.length = fl + 1 := by rw [HGL.out hg0, HFL.out]
                            have hqL := rless_any oo go (fl + 1) oc gc (f ++ [did]) G wc hos hgs hol hgl (by omega)
                            rw [hgl] at hv3
                            have HG0 := hid hg0
                            have hgI : ¬ ((fl : Int) + 1 = 0) := by omega
                            have hgB : (((fl : Int) + 1) == 0) = false := by rw [beq_eq_false_iff_ne]; omega
                            obtain ⟨y, hy⟩ : ∃ y, decide (cmpCh (f ++ [did]) G < 0) = y := ⟨_, rfl⟩
                            rw [hy] at hqL
                            have HY := hid hy
                            clear hg0 hgl hy hos hgs hgn hga hol
                            cases y with
                            | true =>
                              have HG2 : Hid (f ++ [did] = pick (ps L) C did (if dcs = [] then [did] else []) (dcs.take (k + 1))) := by
                                unfold Hid
                                rw [HPT.out, if_pos (.inr (of_decide_eq_true HY.out))]
                              go_wp2_with fail
                              refine hqL.mono ?_
                              rintro e w2 ⟨rfl, hB2⟩
                              have hfi2 := (hnt.below hB2).free i
                              obtain ⟨v8, hv8, _⟩ := (hnt.below hB2).cell (i := i) (by rw [List.length_set, HNL.out]; exact hin)
                              go_wp2_with fail
                              go_roundw
                              case rel => exact ⟨k + 1, f ++ [did], by go_num, by omega, HG2, (hct.below hB2).other (.inr rfl) hcn i _, by have := (hnt.below hB2).set (.inr rfl) (i := i) (HROW.out.below hB2); rwa [List.set_set] at this, (hBx.trans (hB2.mono hwc)).setCell (p := ⟨nb, i, none⟩) hnb0 _⟩
                              case measure => simp [intOf]; omega
                            | false =>
                              have HG2 : Hid (G = pick (ps L) C did (if dcs = [] then [did] else []) (dcs.take (k + 1))) := by
                                unfold Hid
                                rw [HPT.out, if_neg]
                                rintro (q | q)
                                · exact HG0.out q
                                · exact of_decide_eq_false HY.out q
                              go_wp2_with fail
                              refine hqL.mono ?_
                              rintro e w2 ⟨rfl, hB2⟩
                              go_wp2_with fail
                              go_roundw
                              case rel => exact ⟨k + 1, G, by go_num, by omega, HG2, hct.below hB2, hnt.below hB2, hBx.trans (hB2.mono hwc)⟩
                              case measure => simp [intOf]; omega
                  · obtain rfl : k = cl := by omega
                    have HGX : Hid (G = chAt (roundM (ps L) C) i) := by
                      unfold Hid
                      have h1 := HLN.out
                      have h2 := HG.out
                      rw [List.take_of_length_le (by rw [HCN.out]; exact Nat.le_refl _)] at h2
                      rw [← h1, h2]
                      first | done | rfl | congr
                    go_wp2_with fail
                    go_roundw
                    case rel => exact ⟨i + 1, N.set i G, by go_num, by omega, hid (HMI.out.step (by rw [HPL.out]; exact hin) HGX.out), hct, hnt, hBi⟩
                    case measure => simp [intOf]; omega
            · obtain ⟨vo, vc, rfl, _, _, _⟩ := hrc.ex
              have HKN := hid (link_known (by rw [HCL.out, HPL.out]) HP.out hx0)
              have hxp : 0 < (chAt C i).length := List.length_pos_iff.2 hx0
              clear hx0 hrc
              generalize (chAt C i).length = xl at *
              have hxI : (0 : Int) < (xl : Int) := by omega
              go_wp2_with fail
              go_roundw
              case rel => exact ⟨i + 1, N, by go_num, by omega, hid (HMI.out.keep HKN.out), hct, hnt, hBi⟩
              case measure => simp [intOf]; omega
          · obtain rfl : i = n := by omega
            have HFU : Hid (N = roundM (ps L) C) := hid (MidC.full (by rw [HCL.out, HPL.out]) (by rw [HPL.out]; exact HMI.out))
            have HNL : Hid (N.length = i) := hid (by rw [HMI.out.len, HPL.out])
            go_wp2_with fail
            go_roundw
            case rel => exact ⟨r + 1, nb, capT, N, rfl, by go_num, by omega, hid (by rw [iter_out, ← HC.out]; exact HFU.out), HNL, hnt.more (fun q hq => .inl (.inr hq)), hnb0, hBi⟩
            case measure => simp [intOf]; omega
      · obtain rfl : r = n := by omega
        have HCM : Hid (C = chM (ps L)) := by
          unfold Hid chM
          rw [HC.out, HPL.out]
        have hE2 := hEr.below (by rw [hBe]; exact hBr)
        have hq4 := HIX.out id wr hE2
        have hBB : Below w.heap.size w wr := hB.trans (hBr.mono (by rw [← hBe]; exact hB.size))
        have hbm := HBM.out id
        unfold becM at hbm
        rw [← HCM.out] at hbm
        by_cases hm : id ∈ ids L
        · obtain ⟨y1, y2⟩ := HIXN.out id hm
          rw [y1] at hq4
          obtain ⟨v, hv, hrc⟩ := hct.cell (i := idx (ps L) id) (by rw [HCL.out]; exact y2)
          generalize chAt C (idx (ps L) id) = x at *
          generalize idx (ps L) id = ic at *
          have hicI : ¬ ((ic : Int) < 0) := by omega
          have hicL : (ic : Int) < (r : Int) := by omega
          obtain ⟨xo, xc, rfl, hxs, _, _⟩ := hrc.ex
          clear hrc y1 hct hm
          by_cases hx : x = []
          · rw [if_pos hx] at hbm
            have HBI := hid hbm
            subst hx
            simp only [List.length_nil] at hv
            clear hbm hxs
            go_wp2_with fail
            refine hq4.mono ?_
            rintro e w2 ⟨rfl, rfl⟩
            go_wp2_with fail
            go_ret2
            exact ⟨[], 10, none, 0, HBI.out, rfl, ⟨by simp [strsV], by simp [strsV]⟩, hBB⟩
          · rw [if_neg hx] at hbm
            have HBI := hid hbm
            have hxp : 0 < x.length := List.length_pos_iff.2 hx
            have HXS := hid hxs
            clear hbm hxs hx
            generalize hxl : x.length = xl at *
            have HXL := hid hxl
            clear hxl
            have hxI : ((xl : Int) == 0) = false := by rw [beq_eq_false_iff_ne]; omega
            go_wp2_with fail
            refine hq4.mono ?_
            rintro e w2 ⟨rfl, rfl⟩
            go_wp2_with fail
            go_ret2
            exact ⟨x, 0, xo, xc, HBI.out, by rw [HXL.out]; rfl, HXS.out, hBB⟩
        · rw [ixI_no hm] at hq4
          have hz : chAt C (idx (ps L) id) = [] := by
            unfold chAt
            rw [List.getD, List.getElem?_eq_none]
            · rfl
            · rw [HCL.out, ← HPL.out]
              apply Classical.byContradiction
              intro q
              obtain ⟨d, h1, h2⟩ := idx_get (Nat.lt_of_not_le q)
              obtain ⟨e, h3, rfl⟩ := ps_get.1 h1
              exact hm (List.mem_map.2 ⟨e, List.mem_of_getElem? h3, h2⟩)
          rw [if_pos hz] at hbm
          have HBI := hid hbm
          clear hbm hz hm hct
          go_wp2_with fail
          refine hq4.mono ?_
          rintro e w2 ⟨rfl, rfl⟩
          go_wp2_with fail
          go_ret2
          exact ⟨[], 10, none, 0, HBI.out, rfl, ⟨by simp [strsV], by simp [strsV]⟩, hBB⟩
end Go.Proofs.YtgkgpfennlkcnaaDoor
namespace Go.Proofs.YtgkgpfennlkcnaaDoor
open Go.RowKit

set_option maxHeartbeats 4000000 in
set_option maxRecDepth 100000 in
theorem rmatch_walk (ao ro : Option Addr) (cap rc : Nat) (L : List Ent) (R : List ByteArray) (id : ByteArray) (w : World) (hE : L.length ≤ 1000 → Ents w ao L) (hlm : L.length ≤ maxLen) (hR : SlV w ro (strsV R)) :
    Calls Tryd.prog 6 #[.slice ao L.length cap, .slice ro R.length rc, .string id] w fun e w' => e = .returned (.bool true) ∧ Below w.heap.size w w' := by
  cases h1 : fewR L R with
  | false =>
    go_enter Tryd.func6, Tryd.ntmps6
    go_wp2_with fail
    refine (head_any w).mono ?_
    rintro e w1 ⟨rfl, hB⟩
    go_wp2_with fail
    refine (few_any _ _ _ _ L R w1 (fun h => (hE h).below hB) hlm (hR.below hB)).mono ?_
    rintro e w2 ⟨rfl, rfl⟩
    rw [h1]
    go_wp2_with fail
    go_ret
    exact ⟨rfl, hB⟩
  | true =>
    obtain ⟨hS, hl12⟩ := few_small (few_cut h1)
    have hrl := few_most h1
    have hfew : ∀ w1, Below w.heap.size w w1 → Calls Tryd.prog 9 #[.slice ao L.length cap, .slice ro R.length rc] w1 fun e w' => e = .returned (.bool true) ∧ w1 = w' := by
      intro w1 hB
      have := few_any ao ro cap rc L R w1 (fun h => (hE h).below hB) hlm (hR.below hB)
      rw [h1] at this
      exact this
    replace hE := hE (by omega)
    by_cases h40 : 40 < id.size
    · have h40I : (40 : Int) < (id.size : Int) := by omega
      go_enter Tryd.func6, Tryd.ntmps6
      go_wp2_with fail
      refine (head_any w).mono ?_
      rintro e w1 ⟨rfl, hB⟩
      go_wp2_with fail
      refine (hfew w1 hB).mono ?_
      rintro e w2 ⟨rfl, rfl⟩
      go_wp2_with fail
      go_ret
      exact ⟨rfl, hB⟩
    have h40I : ¬ (40 : Int) < (id.size : Int) := by omega
    have HSM := hid hS
    have hM := supR_len L R
    have HS1 := hid (fun (w : World) (h : Ents w ao L) (hr : SlV w ro (strsV R)) => supp_any ao ro cap rc L R w h HSM.out hr (by omega))
    have HS2 := hid (fun (w : World) (h : Ents w ao L) (hr : SlV w ro (strsV R)) => rsup_any ao ro cap rc L R w h HSM.out hr (by omega))
    have HT1 := hid (fun (w : World) (h : Ents w ao L) (hr : SlV w ro (strsV R)) => taint_any ao ro cap rc L R w h HSM.out hr (by omega))
    have HT2 := hid (fun (w : World) (h : Ents w ao L) (hr : SlV w ro (strsV R)) => rtaint_any ao ro cap rc L R w h HSM.out hr (by omega))
    have HC1 := hid (fun (w : World) (h : Ents w ao L) => bec_any ao cap L id w h HSM.out)
    have HC2 := hid (fun (w : World) (h : Ents w ao L) => rbec_any ao cap L id w h HSM.out)
    have HV1 := hid (fun (w : World) (h : Ents w ao L) => valid_any ao cap L w h HSM.out)
    have HV2 := hid (fun (w : World) (h : Ents w ao L) => rvalid_any ao cap L w h HSM.out)
    have HBU := hid (fun (x y : List ByteArray) (e f : Int) (h : BecIs L id x e) (k : BecIs L id y f) => h.uniq k)
    clear h1 hS h40
    generalize validB L = vb at *
    generalize supR L R = sr at *
    obtain ⟨M, er⟩ := sr
    generalize taintR L R = tr at *
    obtain ⟨T, et⟩ := tr
    unfold BoolsPost at HS1 HS2
    unfold StrsPost at HT1 HT2
    unfold BecPost at HC1 HC2
    simp only at HS1 HS2 HT1 HT2 hM
    generalize hn : L.length = n at *
    clear hn
    generalize R.length = m at *
    go_enter Tryd.func6, Tryd.ntmps6
    go_wp2_with fail
    refine (head_any w).mono ?_
    rintro e w1 ⟨rfl, hB⟩
    go_wp2_with fail
    refine (hfew w1 hB).mono ?_
    rintro e w2 ⟨rfl, rfl⟩
    clear hfew
    replace hE := hE.below hB
    replace hR := hR.below hB
    go_wp2_with fail
    refine (HS1.out _ hE hR).mono ?_
    rintro e w2 ⟨so, sc, rfl, hs1, hB1⟩
    replace hE := hE.below hB1
    replace hR := hR.below hB1
    replace hB := bthen hB hB1
    clear hB1 HS1
    go_wp2_with fail
    refine (HS2.out _ hE hR).mono ?_
    rintro e w3 ⟨uo, uc, rfl, hs2, hB1⟩
    replace hE := hE.below hB1
    replace hR := hR.below hB1
    replace hs1 := hs1.below hB1
    replace hB := bthen hB hB1
    clear hB1 HS2
    go_wp2_with fail
    refine (HT1.out _ hE hR).mono ?_
    rintro e w4 ⟨to_, tc, rfl, ht1, hB1, -⟩
    replace hE := hE.below hB1
    replace hR := hR.below hB1
    replace hs1 := hs1.below hB1
    replace hs2 := hs2.below hB1
    replace hB := bthen hB hB1
    clear hB1 HT1
    go_wp2_with fail
    refine (HT2.out _ hE hR).mono ?_
    rintro e w5 ⟨vo, vc, rfl, ht2, hB1, -⟩
    replace hE := hE.below hB1
    replace hs1 := hs1.below hB1
    replace hs2 := hs2.below hB1
    replace ht1 := ht1.below hB1
    replace hB := bthen hB hB1
    clear hB1 HT2 hR
    go_wp2_with fail
    refine (HC1.out _ hE).mono ?_
    rintro e w6 ⟨x, f, xo, xc, hbx, rfl, hx, hB1⟩
    replace hE := hE.below hB1
    replace hs1 := hs1.below hB1
    replace hs2 := hs2.below hB1
    replace ht1 := ht1.below hB1
    replace ht2 := ht2.below hB1
    replace hB := bthen hB hB1
    clear hB1 HC1
    go_wp2_with fail
    refine (HC2.out _ hE).mono ?_
    rintro e w7 ⟨y, g, yo, yc, hby, rfl, hy, hB1⟩
    replace hE := hE.below hB1
    replace hs1 := hs1.below hB1
    replace hs2 := hs2.below hB1
    replace ht1 := ht1.below hB1
    replace ht2 := ht2.below hB1
    replace hx := hx.below hB1
    replace hB := bthen hB hB1
    clear hB1 HC2
    obtain ⟨rfl, rfl⟩ := HBU.out _ _ _ _ hbx hby
    clear hbx hby
    have HBO := hid (fun (w' : World) (hB : Below w7.heap.size w7 w') => bools_yes so uo sc uc M w' (hs1.below hB) (hs2.below hB) (by omega))
    have HSA := hid (fun (w' : World) (hB : Below w7.heap.size w7 w') => same01_all to_ vo tc vc T w' (ht1.below hB) (ht2.below hB))
    have HSB := hid (fun (w' : World) (hB : Below w7.heap.size w7 w') => same01_all xo yo xc yc x w' (hx.below hB) (hy.below hB))
    clear hs1 hs2 ht1 ht2 hx hy
    generalize M.length = ml at *
    generalize T.length = tl at *
    generalize x.length = xl at *
    have hvv : (vb == vb) = true := beq_self_eq_true _
    go_wp2_with fail
    refine (HV1.out _ hE).mono ?_
    rintro e w8 ⟨rfl, hB1⟩
    have hBa := hB1
    replace hE := hE.below hB1
    clear hB1
    go_wp2_with fail
    refine (HV2.out _ hE).mono ?_
    rintro e w9 ⟨rfl, hB1⟩
    replace hBa := bthen hBa hB1
    clear hB1 hE
    go_wp2_with fail
    refine (HBO.out _ hBa).mono ?_
    rintro e w10 ⟨rfl, hB1⟩
    replace hBa := bthen hBa hB1
    clear hB1
    go_wp2_with fail
    refine (HSA.out _ hBa).mono ?_
    rintro e w11 ⟨rfl, hB1⟩
    replace hBa := bthen hBa hB1
    clear hB1
    go_wp2_with fail
    refine (HSB.out _ hBa).mono ?_
    rintro e w12 ⟨rfl, hB1⟩
    replace hBa := bthen hBa hB1
    clear hB1
    go_wp2_with fail
    go_ret
    exact ⟨by first | rfl | simp, bthen hB hBa⟩
theorem rmatch_law (a0 : Option Addr) (len0 cap0 : Nat) (z0 : List Ent) (a1 : Option Addr) (len1 cap1 : Nat) (z1 : List ByteArray) (a2 : ByteArray) (W : World) (w0 : EntsArg W a0 len0 cap0 z0) (w1 : StrsArg W a1 len1 cap1 z1) (_w2 : a2.size ≤ maxLen) :
    Calls Tryd.prog 6 #[.slice a0 len0 cap0, .slice a1 len1 cap1, .string a2] W fun e w' => e = .returned (.bool true) ∧ Below W.heap.size W w' := by
  have h0 := w0.hlen
  have h1 := w1.hlen
  subst h0 h1
  exact rmatch_walk a0 a1 cap0 cap1 z0 z1 a2 W w0.ents (Nat.le_trans w0.hcap w0.hmax) w1.slv
end Go.Proofs.YtgkgpfennlkcnaaDoor
