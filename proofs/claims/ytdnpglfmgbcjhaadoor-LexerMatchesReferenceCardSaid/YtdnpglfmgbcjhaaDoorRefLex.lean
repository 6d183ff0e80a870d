/- the reference's Lex -/
import Derived.Test.YtdnpglfmgbcjhaaDoorRefNext4
import Derived.Test.YtdnpglfmgbcjhaaDoorLexSame
namespace Go.Proofs.YtdnpglfmgbcjhaaDoor
open Go.RowKit

set_option maxHeartbeats 4000000 in
set_option maxRecDepth 100000 in
theorem rlex_any (s : ByteArray) (w : World) (hs : s.size ≤ 1000000) : Calls Tryd.prog 13 #[.string s] w (LexPost w s.data.toList) := by
  have HZ := hid (Lib.size_eq s)
  by_cases hbig : 20000 < s.size
  · have hI : 20000 < (s.size : Int) := by omega
    have hl : lexL s.data.toList = ([], 2, -1) := by unfold lexL; rw [if_pos (by have := HZ.out; omega)]
    have HL := hid hl
    clear hl
    go_enter Tryd.func13, Tryd.ntmps13
    go_wp2_with fail
    go_ret3
    refine ⟨_, by rw [HL.out]; rfl, ?_⟩
    rw [HL.out]
    exact MineN.start (Below.refl _ _) (Nat.le_refl _)
  · have hI : ¬ 20000 < (s.size : Int) := by omega
    have hl : lexL s.data.toList = lexF (s.data.toList.length + 1) 0 0 s.data.toList := by unfold lexL; rw [if_neg (by have := HZ.out; omega)]
    have HL := hid hl
    clear hl
    have hG0 := fun w => rgap_any s 0 w hs (Nat.zero_le _)
    rw [List.drop_zero, Nat.zero_add] at hG0
    have HG0 := hid (show ∀ w, Calls Tryd.prog 25 #[.string s, .int .i64 0] w fun e w' => e = .returned (.int .i64 ((gapL false s.data.toList : Nat) : Int)) ∧ w = w' from hG0)
    clear hG0
    go_enter Tryd.func13, Tryd.ntmps13
    go_wp2_with fail
    refine (HG0.out _).mono ?_
    rintro e w' ⟨rfl, rfl⟩
    go_wp2_with fail
    go_loopw [5, 6] (fun s5 s6 wr => ∃ (p k f : Nat) (ts : List Tok) (v : Value), v = s5 ∧ s6 = .int .i64 ((p + gapL false (s.data.toList.drop p) : Nat) : Int) ∧ p ≤ s.size ∧ k = ts.length ∧ k ≤ 5000 ∧ s.size - p < f ∧
        lexL s.data.toList = joinR ts (lexF f k p (s.data.toList.drop p)) ∧ MineN 4 w.heap.size w wr 30 v k (toksCells ts)) (fun _ s6 _ => s.size - (intOf s6).toNat)
    case atStart =>
      refine ⟨0, 0, s.data.toList.length + 1, [], _, rfl, by simp, by omega, rfl, by omega, by have := HZ.out; omega, ?_, MineN.start (Below.refl _ _) (Nat.le_refl _)⟩
      rw [HL.out, joinR_nil _ (lexF_err _ _ _ _)]; rfl
    case round =>
      obtain ⟨wo, hwo⟩ : ∃ wo : World, wo = wr := ⟨_, rfl⟩
      subst hwo
      obtain ⟨p, k, f, ts, v, rfl, rfl, hp, hkl, hk, hf, hlex, hm⟩ := hrel
      have HLEX := hid hlex
      have HKL := hid hkl
      have hgl := gapL_le false (s.data.toList.drop p)
      rw [List.length_drop, ← HZ.out] at hgl
      obtain ⟨i, hi⟩ : ∃ i, p + gapL false (s.data.toList.drop p) = i := ⟨_, rfl⟩
      have HI := hid hi
      rw [hi]
      clear hlex hkl hi
      obtain ⟨f, rfl⟩ : ∃ f', f = f' + 1 := ⟨f - 1, by omega⟩
      have hmb := hm.base
      by_cases hlt : i < s.size
      · have hIlt : (i : Int) < (s.size : Int) := by omega
        have HNX := hid (fun w => rnext_any s i w (by omega) hlt)
        cases htk : tok1 (s.data.toList.drop i) with
        | err e =>
          rw [htk] at HNX
          have he := tok1_err htk
          have HT := hid htk
          clear htk
          unfold RN tok0 at HNX
          dsimp only at HNX
          go_wp2_with fail
          refine (HNX.out _).mono ?_
          rintro en w4 ⟨rfl, hB4⟩
          go_wp2_with fail
          go_ret3
          have hr := HLEX.out
          have h1 : ¬ (s.data.toList.drop p).length ≤ gapL false (s.data.toList.drop p) := by rw [List.length_drop, ← HZ.out]; have := HI.out; omega
          rw [lexF, if_neg h1, List.drop_drop, HI.out, HT.out] at hr
          dsimp only at hr
          rw [joinR, if_neg (by dsimp only; omega)] at hr
          dsimp only at hr
          refine ⟨_, by rw [hr]; rfl, ?_⟩
          rw [hr]
          exact MineN.start ((hm.below.trans (hB4.mono hmb)).alloc (by have := hB4.size; omega) _) (by have := hB4.size; simp; omega)
        | tok kd t n wd =>
          rw [htk] at HNX
          have hne0 : s.data.toList.drop i ≠ [] := by intro e; have := congrArg List.length e; rw [List.length_drop, ← HZ.out] at this; simp at this; omega
          have hwd : widT ⟨kd, t, n, i⟩ = wd := by
            have := (tok1_stop hne0 htk).2.2.1
            rw [← this]
            unfold widT wrt; split <;> simp
          have HT := hid htk
          clear htk
          unfold RN tokV at HNX
          dsimp only at HNX
          obtain ⟨ao, cap, rfl⟩ := hm.shape
          have hr := HLEX.out
          have h1 : ¬ (s.data.toList.drop p).length ≤ gapL false (s.data.toList.drop p) := by rw [List.length_drop, ← HZ.out]; have := HI.out; omega
          rw [lexF, if_neg h1, List.drop_drop, HI.out, HT.out] at hr
          dsimp only at hr
          rw [List.drop_drop, show p + (gapL false (s.data.toList.drop p) + wd) = i + wd by have := HI.out; omega] at hr
          obtain ⟨b1, b2, b3, b4⟩ := tok1_bd hne0 HT.out
          rw [List.length_drop, ← HZ.out] at b2
          have HW := hid (fun w => width_any ⟨kd, t, n, i⟩ w (by show t.length ≤ _; omega))
          rw [hwd] at HW
          unfold tokW at HW
          dsimp only at HW
          have HR := hid hr
          clear hr HLEX hwd hne0
          cases h5 : ((k : Int) == 5000) with
          | true =>
            have h5' : k = 5000 := by simp at h5; omega
            have hr := HR.out
            rw [if_pos h5'] at hr
            clear h5'
            go_wp2_with fail
            refine (HNX.out _).mono ?_
            rintro en w4 ⟨rfl, hB4⟩
            go_wp2_with fail
            go_ret3
            rw [joinR, if_neg (by dsimp only; omega)] at hr
            dsimp only at hr
            refine ⟨_, by rw [hr]; rfl, ?_⟩
            rw [hr]
            exact MineN.start ((hm.below.trans (hB4.mono hmb)).alloc (by have := hB4.size; omega) _) (by have := hB4.size; simp; omega)
          | false =>
            have h5' : k ≠ 5000 := by simp at h5; omega
            have hr := HR.out
            rw [if_neg h5', joinR_join] at hr
            have HR2 := hid hr
            clear hr HR
            go_wp2_with fail
            refine (HNX.out _).mono ?_
            rintro en w4 ⟨rfl, hB4⟩
            have hB4s := hB4.size
            have hm4 : MineN 4 w.heap.size w (w4.alloc (.cells #[.int .i64 kd, .string ⟨t.toArray⟩, .int .i64 n, .int .i64 i] 30)) 30 (.slice ao k cap) k (toksCells ts) :=
              ⟨ownsRow_chgN hm.own (Chg.alloc (Chg.below (S := fun q => wo.heap.size ≤ q) (Chg.refl _ wo) hB4 (fun q _ h => h)) _) (fun q hq => by have := (hm.own.lt q hq).2; omega), (hm.below.trans (hB4.mono hmb)).alloc (by omega) _, by simp; omega⟩
            have htb := Blk.new w4 #[.int .i64 kd, .string ⟨t.toArray⟩, .int .i64 n, .int .i64 i] 30
            have hown : ∀ b, (Value.slice ao k cap).ownBlock = some b → b < w4.heap.size := fun b hb => by have := (hm.own.lt b hb).2; omega
            have hL1 : k + 1 ≤ maxLen := by unfold maxLen; omega
            have hL2 : (k + 1) * 40 ≤ 140737488355328 := by omega
            have HOW := hid hown
            clear hown
            go_wp2_with (at_builtin; refine wpl_appN rfl _ _ 23 rfl 30 _ 4 40 Tryd.underlying23 Tryd.infoTok rfl (by decide) _ _ _ _ _ hm4 rfl #[.int .i64 kd, .string ⟨t.toArray⟩, .int .i64 n, .int .i64 i] rfl (by simp [Value.oneCell']) (by rw [World.size_alloc]; rfl) hL1 hL2 ?_; intro g1 cap1 w5 hm5 hg5 hB5 hat5; have htb5 := Blk.grown htb hg5 (fun e => Nat.lt_irrefl _ (HOW.out _ e.symm)); have x0 : w5.cell? ⟨w4.heap.size, 0, none⟩ = some (.int .i64 kd) := htb5.cell 0; have x1 : w5.cell? ⟨w4.heap.size, 1, none⟩ = some (.string ⟨t.toArray⟩) := htb5.cell 1; have x2 : w5.cell? ⟨w4.heap.size, 2, none⟩ = some (.int .i64 n) := htb5.cell 2; have x3 : w5.cell? ⟨w4.heap.size, 3, none⟩ = some (.int .i64 i) := htb5.cell 3)
            clear x0 x1 x2 x3 htb5
            refine (HW.out _).mono ?_
            rintro en w6 ⟨rfl, hB6⟩
            have hgn := hid (rgap_any s (i + wd) w6 hs (by omega))
            push_cast at hgn
            go_wp2_with fail
            refine hgn.out.mono ?_
            rintro e w' ⟨rfl, rfl⟩
            go_wp2_with fail
            go_roundw
            case rel =>
              have hm6 : MineN 4 w.heap.size w w6 30 (.slice (some ⟨g1, 0, none⟩) (k + 1) cap1) (k + 1) (toksCells (ts ++ [⟨kd, t, n, i⟩])) :=
                ⟨by
                  have := ownsRow_chgN hm5.own (Chg.below (S := fun q => w5.heap.size ≤ q) (Chg.refl _ w5) hB6 (fun q _ h => h)) (fun q hq => by have := (hm5.own.lt q hq).2; omega)
                  simpa [toksCells, tokCells] using this, hm5.below.trans (hB6.mono hm5.base), Nat.le_trans hm5.base hB6.size⟩
              refine ⟨i + wd, k + 1, f, ts ++ [⟨kd, t, n, i⟩], _, rfl, by push_cast; rfl, by omega, by simp [HKL.out], by have := h5'; omega, by have := HI.out; omega, ?_, hm6⟩
              rw [HR2.out]
            case measure => simp [intOf]; have := HI.out; omega
      · have hIlt : ¬ (i : Int) < (s.size : Int) := by omega
        go_wp2_with fail
        go_ret3
        have he : lexF (f + 1) k p (s.data.toList.drop p) = ([], 0, 0) := by
          rw [lexF, if_pos]
          rw [List.length_drop, ← HZ.out]; have := HI.out; omega
        have hr := HLEX.out
        rw [he] at hr
        simp only [joinR, if_true, List.append_nil] at hr
        refine ⟨_, by rw [hr]; rfl, ?_⟩
        rw [hr]
        have := hm
        rw [HKL.out] at this
        exact this
end Go.Proofs.YtdnpglfmgbcjhaaDoor
