/- lexer.Lex -/
import Derived.Test.YtogcnmjipfllaaaDoorLexQuote
import Derived.Test.YtogcnmjipfllaaaDoorLibN
namespace Go.Proofs.YtogcnmjipfllaaaDoor
open Go.RowKit

def tokCells (t : Tok) : List Value := [.int .i64 t.k, .string ⟨t.t.toArray⟩, .int .i64 t.n, .int .i64 t.at_]
def toksCells (ts : List Tok) : List Value := ts.flatMap tokCells
def LexPost (w : World) (l : List UInt8) (e : Ending) (w' : World) : Prop :=
  ∃ v, e = .returned (.tuple #[v, .int .i64 (lexL l).2.1, .int .i64 (lexL l).2.2]) ∧ MineN 4 w.heap.size w w' 82 v (lexL l).1.length (toksCells (lexL l).1)

theorem Tryd.infoTok : (Tryd.prog.info? 82).map (fun i => (i.zero, i.size, i.bytes)) = some (some (.agg #[.int .i64 0, .string ⟨#[]⟩, .int .i64 0, .int .i64 0]), 4, 40) := by kernel_rfl
theorem scan_cells (s : ByteArray) : Array.foldl (fun (cs : Array Value) (x : Value × Nat) => cs.setIfInBounds (1 + x.snd) x.fst) (Tryd.zeroCells86.setIfInBounds 0 (Value.string s)) clsCells.toArray.zipIdx 0 256 = (Value.string s :: clsCells).toArray := by kernel_rfl

theorem MineN.shape {sz B : Nat} {w0 w : World} {E : TypeId} {v : Value} {n : Nat} {xs : List Value} (h : MineN sz B w0 w E v n xs) : ∃ ao cap, v = .slice ao n cap := by
  rcases h.own.2 with ⟨e, h3⟩ | ⟨g, cap, cur, hv, hg, _⟩
  · exact ⟨none, 0, by rw [e, h3]⟩
  · exact ⟨_, cap, hv⟩

set_option maxHeartbeats 4000000 in
set_option maxRecDepth 100000 in
theorem lex_any (s : ByteArray) (w : World) (hs : s.size ≤ 1000000) : Calls Tryd.prog 24 #[.string s] w (LexPost w s.data.toList) := by
  have HZ := hid (Lib.size_eq s)
  by_cases hbig : 20000 < s.size
  · have hI : 20000 < (s.size : Int) := by omega
    have hl : lexL s.data.toList = ([], 2, -1) := by unfold lexL; rw [if_pos (by have := HZ.out; omega)]
    have HL := hid hl
    clear hl
    go_enter Tryd.func24, Tryd.ntmps24
    go_wp2_with fail
    go_ret3
    refine ⟨_, by rw [HL.out]; rfl, ?_⟩
    rw [HL.out]
    exact MineN.start (Below.refl _ _) (Nat.le_refl _)
  · have hI : ¬ 20000 < (s.size : Int) := by omega
    have hl : lexL s.data.toList = lexF (s.data.toList.length + 1) 0 0 s.data.toList := by unfold lexL; rw [if_neg (by have := HZ.out; omega)]
    have HL := hid hl
    clear hl
    go_enter Tryd.func24, Tryd.ntmps24
    go_wp2_with fail
    refine (classes_any w).mono ?_
    rintro e w1 ⟨rfl, hB1⟩
    obtain ⟨cc, hcc⟩ : ∃ cc, clsCells.toArray = cc := ⟨_, rfl⟩
    rw [hcc]
    have h256 : cc.size = 256 := by rw [← hcc]; simp [clsCells]
    have hX := scan_cells s
    rw [hcc] at hX
    have hzn := Blk.new w1 Tryd.zeroCells86 86
    have hst := setRow_heap (w1.alloc (.cells Tryd.zeroCells86 86)) w1.heap.size _ (Value.string s :: clsCells).toArray 86 (0, 0) hzn
    have h257 : (Value.string s :: clsCells).toArray.size = 257 := by simp [clsCells]
    have h1c : (Value.string s :: clsCells).toArray.all (·.oneCell') = true := by kernel_rfl
    have hi1 : (Tryd.prog.info? 86).map (·.size) = some (Value.string s :: clsCells).toArray.size := by rw [h257]; kernel_rfl
    have hold : (Tryd.zeroCells86).toList.toArray.size = (Value.string s :: clsCells).toArray.size := by rw [h257]; kernel_rfl
    clear hcc
    obtain ⟨sc, hsc⟩ : ∃ sc, (Value.string s :: clsCells).toArray = sc := ⟨_, rfl⟩
    rw [hsc] at hX hst h1c hi1 hold
    have HSC := hid hsc
    have hsz : 257 ≤ sc.size := by rw [← hsc, h257]; exact Nat.le_refl _
    clear h257 hsc
    have HX := hid hX
    clear hX
    go_wp2_with (first
      | (refine wpList_store_row rfl 86 _ _ rfl w1.heap.size sc rfl (congrArg Value.agg HX.out) 86 _ hzn hi1 hold h1c ?_))
    obtain ⟨w2, hw2⟩ : ∃ w2 : World, w2 = (w1.alloc (.cells Tryd.zeroCells86 86)).setRow w1.heap.size sc := ⟨_, rfl⟩
    have hsc2 : Scan w2 w1.heap.size s := by
      rw [← hw2, ← HSC.out] at hst
      exact hst
    have hB2 : Below w.heap.size w w2 := by
      rw [hw2]
      exact below_setRow (hB1.alloc hB1.size _) hB1.size sc
    rw [← hw2]
    have hsbB : w.heap.size ≤ w1.heap.size := hB1.size
    clear hst hzn hi1 h1c hold hw2 hB1 HX HSC hsz h256
    generalize w1.heap.size = sb at *
    refine (gap_any w2 sb s 0 hsc2 hs (by omega)).mono ?_
    rintro e w3 ⟨rfl, hB23⟩
    rw [List.drop_zero, Nat.zero_add]
    have hsc3 := Blk.below hsc2 hB23 hsc2.lt
    have hB3 : Below w.heap.size w w3 := hB2.trans (hB23.mono hB2.size)
    go_wp2_with fail
    go_loopw [6, 7] (fun s6 s7 wr => ∃ (p k f : Nat) (ts : List Tok) (v : Value), v = s6 ∧ s7 = .int .i64 ((p + gapL false (s.data.toList.drop p) : Nat) : Int) ∧ p ≤ s.size ∧ k = ts.length ∧ k ≤ 5000 ∧ s.size - p < f ∧
        lexL s.data.toList = joinR ts (lexF f k p (s.data.toList.drop p)) ∧ MineN 4 w.heap.size w wr 82 v k (toksCells ts) ∧ Scan wr sb s ∧ (∀ b, v.ownBlock = some b → b ≠ sb)) (fun _ s7 _ => s.size - (intOf s7).toNat)
    case atStart =>
      refine ⟨0, 0, s.data.toList.length + 1, [], _, rfl, by simp, by omega, rfl, by omega, by have := HZ.out; omega, ?_, MineN.start hB3 hB3.size, hsc3, fun b h => by cases h⟩
      rw [HL.out, joinR_nil _ (lexF_err _ _ _ _)]; rfl
    case round =>
      obtain ⟨wo, hwo⟩ : ∃ wo : World, wo = wr := ⟨_, rfl⟩
      subst hwo
      obtain ⟨p, k, f, ts, v, rfl, rfl, hp, hkl, hk, hf, hlex, hm, hscan, hvb⟩ := hrel
      have HLEX := hid hlex
      have HKL := hid hkl
      have hgl := gapL_le false (s.data.toList.drop p)
      rw [List.length_drop, ← HZ.out] at hgl
      obtain ⟨i, hi⟩ : ∃ i, p + gapL false (s.data.toList.drop p) = i := ⟨_, rfl⟩
      have HI := hid hi
      rw [hi]
      clear hlex hkl hi
      obtain ⟨f, rfl⟩ : ∃ f', f = f' + 1 := ⟨f - 1, by omega⟩
      have hmb := hm.base
      by_cases hlt : i < s.size
      · have hIlt : (i : Int) < (s.size : Int) := by omega
        go_wp2_with fail
        refine (next_any wo sb s i hscan (by omega) hlt).mono ?_
        rintro e w4 ⟨tv, en, er, rfl, hnr, hB4⟩
        cases htk : tok1 (s.data.toList.drop i) with
        | err e =>
          rw [htk] at hnr
          obtain ⟨rfl, rfl, rfl⟩ := hnr
          have he := tok1_err htk
          have HT := hid htk
          clear htk
          unfold tok0
          go_wp2_with fail
          go_ret3
          have hr := HLEX.out
          have h1 : ¬ (s.data.toList.drop p).length ≤ gapL false (s.data.toList.drop p) := by rw [List.length_drop, ← HZ.out]; have := HI.out; omega
          rw [lexF, if_neg h1, List.drop_drop, HI.out, HT.out] at hr
          dsimp only at hr
          rw [joinR, if_neg (by dsimp only; omega)] at hr
          dsimp only at hr
          refine ⟨_, by rw [hr]; rfl, ?_⟩
          rw [hr]
          exact MineN.start ((hm.below.trans (hB4.mono hmb)).alloc (by have := hB4.size; omega) _) (by have := hB4.size; simp; omega)
        | tok kd t n wd =>
          rw [htk] at hnr
          obtain ⟨rfl, rfl, rfl⟩ := hnr
          have HT := hid htk
          clear htk
          obtain ⟨ao, cap, rfl⟩ := hm.shape
          have hr := HLEX.out
          have h1 : ¬ (s.data.toList.drop p).length ≤ gapL false (s.data.toList.drop p) := by rw [List.length_drop, ← HZ.out]; have := HI.out; omega
          rw [lexF, if_neg h1, List.drop_drop, HI.out, HT.out] at hr
          dsimp only at hr
          rw [List.drop_drop, show p + (gapL false (s.data.toList.drop p) + wd) = i + wd by have := HI.out; omega] at hr
          obtain ⟨b1, b2, b3, b4⟩ := tok1_bd (by intro e; have := congrArg List.length e; rw [List.length_drop, ← HZ.out] at this; simp at this; omega) HT.out
          rw [List.length_drop, ← HZ.out] at b2
          have HR := hid hr
          clear hr HLEX
          unfold tokV
          cases h5 : ((k : Int) == 5000) with
          | true =>
            have h5' : k = 5000 := by simp at h5; omega
            have hr := HR.out
            rw [if_pos h5'] at hr
            clear h5'
            go_wp2_with fail
            go_ret3
            rw [joinR, if_neg (by dsimp only; omega)] at hr
            dsimp only at hr
            refine ⟨_, by rw [hr]; rfl, ?_⟩
            rw [hr]
            exact MineN.start ((hm.below.trans (hB4.mono hmb)).alloc (by have := hB4.size; omega) _) (by have := hB4.size; simp; omega)
          | false =>
            have h5' : k ≠ 5000 := by simp at h5; omega
            have hr := HR.out
            rw [if_neg h5', joinR_join] at hr
            have HR2 := hid hr
            clear hr HR
            have hB4s := hB4.size
            have hm4 : MineN 4 w.heap.size w (w4.alloc (.cells #[.int .i64 kd, .string ⟨t.toArray⟩, .int .i64 n, .int .i64 i] 82)) 82 (.slice ao k cap) k (toksCells ts) :=
              ⟨ownsRow_chgN hm.own (Chg.alloc (Chg.below (S := fun q => wo.heap.size ≤ q) (Chg.refl _ wo) hB4 (fun q _ h => h)) _) (fun q hq => by have := (hm.own.lt q hq).2; omega), (hm.below.trans (hB4.mono hmb)).alloc (by omega) _, by simp; omega⟩
            have hscan4 : Scan (w4.alloc (.cells #[.int .i64 kd, .string ⟨t.toArray⟩, .int .i64 n, .int .i64 i] 82)) sb s := Blk.alloc (Blk.below hscan hB4 hscan.lt) _
            have hL1 : k + 1 ≤ maxLen := by unfold maxLen; omega
            have hL2 : (k + 1) * 40 ≤ 140737488355328 := by omega
            have hsblt := hscan4.lt
            go_wp2_with (at_builtin; refine wpl_appN rfl _ _ 62 rfl 82 _ 4 40 Tryd.underlying62 Tryd.infoTok rfl (by decide) _ _ _ _ _ hm4 rfl #[.int .i64 kd, .string ⟨t.toArray⟩, .int .i64 n, .int .i64 i] rfl (by simp [Value.oneCell']) (by rw [World.size_alloc]; rfl) hL1 hL2 ?_; intro g1 cap1 w5 hm5 hg5 hBg hat5)
            have hscan5 : Scan w5 sb s := Blk.grown hscan4 hg5 (fun e => hvb sb e.symm rfl)
            have hvb5 : g1 ≠ sb := by
              rcases hat5 with h | h
              · exact hvb g1 h
              · omega
            have hgn := hid (gap_any w5 sb s (i + wd) hscan5 hs (by omega))
            push_cast at hgn
            refine hgn.out.mono ?_
            rintro e w6 ⟨rfl, hB6⟩
            go_wp2_with fail
            go_roundw
            case rel =>
              have hm6 : MineN 4 w.heap.size w w6 82 (.slice (some ⟨g1, 0, none⟩) (k + 1) cap1) (k + 1) (toksCells (ts ++ [⟨kd, t, n, i⟩])) :=
                ⟨by
                  have := ownsRow_chgN hm5.own (Chg.below (S := fun q => w5.heap.size ≤ q) (Chg.refl _ w5) hB6 (fun q _ h => h)) (fun q hq => by have := (hm5.own.lt q hq).2; omega)
                  simpa [toksCells, tokCells] using this, hm5.below.trans (hB6.mono hm5.base), Nat.le_trans hm5.base hB6.size⟩
              refine ⟨i + wd, k + 1, f, ts ++ [⟨kd, t, n, i⟩], _, rfl, by push_cast; rfl, by omega, by simp [HKL.out], by have := h5'; omega, by have := HI.out; omega, ?_, hm6, Blk.below hscan5 hB6 hscan5.lt, fun b hb => ?_⟩
              · rw [HR2.out]
              · simp [Value.ownBlock] at hb; omega
            case measure => simp [intOf]; have := HI.out; omega
      · have hIlt : ¬ (i : Int) < (s.size : Int) := by omega
        go_wp2_with fail
        go_ret3
        have he : lexF (f + 1) k p (s.data.toList.drop p) = ([], 0, 0) := by
          rw [lexF, if_pos]
          rw [List.length_drop, ← HZ.out]; have := HI.out; omega
        have hr := HLEX.out
        rw [he] at hr
        simp only [joinR, if_true, List.append_nil] at hr
        refine ⟨_, by rw [hr]; rfl, ?_⟩
        rw [hr]
        have := hm
        rw [HKL.out] at this
        exact this
end Go.Proofs.YtogcnmjipfllaaaDoor
