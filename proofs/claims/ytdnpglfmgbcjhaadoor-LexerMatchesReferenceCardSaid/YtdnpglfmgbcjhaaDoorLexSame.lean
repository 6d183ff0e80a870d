/- lexer: the reference's comparing of tokens -/
import Derived.Test.YtdnpglfmgbcjhaaDoorLexHead
import Derived.Test.YtdnpglfmgbcjhaaDoorLexR3
namespace Go.Proofs.YtdnpglfmgbcjhaaDoor
open Go.RowKit

theorem Toks.at {w : World} {ao : Option Addr} {ts : List Tok} (h : Toks w ao ts) {i : Nat} {t : Tok} (ht : ts[i]? = some t) :
    ∃ b off, ao = some ⟨b, off, none⟩ ∧ b < w.heap.size ∧ w.cell? ⟨b, off + i * 4, none⟩ = some (.int .i64 t.k) ∧ w.cell? ⟨b, off + i * 4 + 1, none⟩ = some (.string ⟨t.t.toArray⟩) ∧
      w.cell? ⟨b, off + i * 4 + 2, none⟩ = some (.int .i64 t.n) ∧ w.cell? ⟨b, off + i * 4 + 3, none⟩ = some (.int .i64 t.at_) := by
  obtain ⟨b, off, e, hb, c0, c1, c2, c3⟩ := h.get ht
  have e0 : off + (4 * i + 0) = off + i * 4 := by omega
  have e1 : off + (4 * i + 1) = off + i * 4 + 1 := by omega
  have e2 : off + (4 * i + 2) = off + i * 4 + 2 := by omega
  have e3 : off + (4 * i + 3) = off + i * 4 + 3 := by omega
  rw [e0] at c0; rw [e1] at c1; rw [e2] at c2; rw [e3] at c3
  exact ⟨b, off, e, hb, c0, c1, c2, c3⟩
def tokW (t : Tok) : Value := .agg #[.int .i64 t.k, .string ⟨t.t.toArray⟩, .int .i64 t.n, .int .i64 t.at_]
theorem tok_world (k : Int) (t : List UInt8) (n at_ : Int) (w : World) : ∃ w0 : World, (w.alloc (.cells #[.int .i64 k, .string ⟨t.toArray⟩, .int .i64 n, .int .i64 at_] 30)) = w0 ∧ Blk w0 w.heap.size 30 [.int .i64 k, .string ⟨t.toArray⟩, .int .i64 n, .int .i64 at_] ∧ Below w.heap.size w w0 :=
  ⟨_, rfl, Blk.new w _ _, below_alloc w _⟩
def widT (t : Tok) : Nat := if t.k = 3 then t.t.length + 2 else t.t.length
theorem width_any (t : Tok) (w : World) (hs : t.t.length ≤ 100000) : Calls Tryd.prog 15 #[tokW t] w fun e w' => e = .returned (.int .i64 (widT t)) ∧ Below w.heap.size w w' := by
  have hsz : (⟨t.t.toArray⟩ : ByteArray).size = t.t.length := by show t.t.toArray.size = _; simp
  obtain ⟨k, tt, n, at_⟩ := t
  unfold tokW
  dsimp only at *
  by_cases hk : k = 3
  · have e : ((widT ⟨k, tt, n, at_⟩ : Nat) : Int) = tt.length + 2 := by unfold widT; rw [if_pos hk]; push_cast; rfl
    rw [e]
    go_enter Tryd.func15, Tryd.ntmps15
    go_wp2_with fail
    go_ret
    exact ⟨rfl, below_alloc w _⟩
  · have e : ((widT ⟨k, tt, n, at_⟩ : Nat) : Int) = tt.length := by unfold widT; rw [if_neg hk]
    rw [e]
    go_enter Tryd.func15, Tryd.ntmps15
    go_wp2_with fail
    go_ret
    exact ⟨rfl, below_alloc w _⟩
def wrtT (t : Tok) : ByteArray := ⟨(wrt t.k t.t).toArray⟩
theorem written_any (t : Tok) (w : World) (hs : t.t.length ≤ 100000) : Calls Tryd.prog 16 #[tokW t] w fun e w' => e = .returned (.string (wrtT t)) ∧ Below w.heap.size w w' := by
  have hsz : (⟨t.t.toArray⟩ : ByteArray).size = t.t.length := by show t.t.toArray.size = _; simp
  obtain ⟨k, tt, n, at_⟩ := t
  unfold tokW
  dsimp only at *
  have hx : (⟨#[34]⟩ : ByteArray) ++ ⟨tt.toArray⟩ ++ (⟨#[34]⟩ : ByteArray) = ⟨(34 :: (tt ++ [34])).toArray⟩ := by
    apply congrArg ByteArray.mk
    apply Array.toList_inj.1
    show ((⟨#[34]⟩ : ByteArray) ++ ⟨tt.toArray⟩ ++ (⟨#[34]⟩ : ByteArray)).data.toList = _
    simp
  by_cases hk : k = 3
  · have e : wrtT ⟨k, tt, n, at_⟩ = (⟨#[34]⟩ : ByteArray) ++ ⟨tt.toArray⟩ ++ (⟨#[34]⟩ : ByteArray) := by unfold wrtT wrt; dsimp only; rw [if_pos hk, hx]
    rw [e]
    clear hx
    generalize (⟨tt.toArray⟩ : ByteArray) = S at *
    have n1 : ¬ 9223372036854775807 < 1 + S.size := by omega
    have n2 : ¬ 9223372036854775807 < 1 + S.size + 1 := by omega
    go_enter Tryd.func16, Tryd.ntmps16
    go_wp2_with fail
    go_ret
    exact ⟨rfl, below_alloc w _⟩
  · have e : wrtT ⟨k, tt, n, at_⟩ = ⟨tt.toArray⟩ := by unfold wrtT wrt; dsimp only; rw [if_neg hk]
    rw [e]
    go_enter Tryd.func16, Tryd.ntmps16
    go_wp2_with fail
    go_ret
    exact ⟨rfl, below_alloc w _⟩

set_option maxHeartbeats 2000000 in
set_option maxRecDepth 100000 in
theorem same_yes (ao bo : Option Addr) (ca cb : Nat) (L : List Tok) (q : Nat) (w : World) (hA : Toks w ao L) (hB : Toks w bo (L.map (shT q))) (hl : L.length ≤ 100000) (hq : ∀ t ∈ L, t.at_ + q ≤ 1000000) :
    Calls Tryd.prog 14 #[.slice ao L.length ca, .int .i64 q, .slice bo L.length cb] w fun e w' => e = .returned (.bool true) ∧ Below w.heap.size w w' := by
  generalize hn : L.length = len at *
  go_enter Tryd.func14, Tryd.ntmps14
  go_wp2_with fail
  go_loopw [7] (fun s7 wr => ∃ k : Nat, s7 = .int .i64 k ∧ k ≤ len ∧ Below w.heap.size w wr) (fun s7 _ => len - (intOf s7).toNat)
  case atStart => exact ⟨0, rfl, by omega, Below.refl _ _⟩
  case round =>
    obtain ⟨k, rfl, hk, hBw⟩ := hrel
    by_cases hkl : k < len
    · obtain ⟨t, ht⟩ : ∃ t, L[k]? = some t := ⟨_, List.getElem?_eq_getElem (by omega)⟩
      have hqt := hq t (List.mem_of_getElem? ht)
      obtain ⟨b, off, ea, hb, a0, a1, a2, a3⟩ := (hA.below hBw).at ht
      obtain ⟨d, doff, eb, hd, d0, d1, d2, d3⟩ := (hB.below hBw).at (i := k) (t := shT q t) (by rw [List.getElem?_map, ht]; rfl)
      subst ea eb
      dsimp only [shT] at d0 d1 d2 d3
      go_wp2_with fail
      obtain ⟨w0, hw0, hx, hB0⟩ := tok_world t.k t.t t.n (t.at_ + q) wr
      rw [hw0]
      clear hw0
      have x0 := hx.cell 0
      have x1 := hx.cell 1
      have x2 := hx.cell 2
      have x3 := hx.cell 3
      simp only [List.getElem?_cons_succ, List.getElem?_cons_zero] at x0 x1 x2 x3
      have y0 := (hB0.cell hd).trans d0
      have y1 := (hB0.cell hd).trans d1
      have y2 := (hB0.cell hd).trans d2
      have y3 := (hB0.cell hd).trans d3
      have hBn := hBw.trans (hB0.mono hBw.size)
      generalize wr.heap.size = xb at *
      clear a0 a1 a2 a3 d0 d1 d2 d3 hb hd hA hB hBw
      refine wp_region_quiet_all (by kernel_rfl) (by kernel_rfl) ?_
      repeat (go_big_quiet_step (fail))
      refine wpQuiet_end ?_
      go_wp2_with fail
      go_roundw
      case rel => exact ⟨k + 1, by go_num, by omega, hBn.drew⟩
      case measure => simp [intOf]; omega
    · obtain rfl : k = len := by omega
      go_wp2_with fail
      go_ret
      exact ⟨ret_bool (by first | rfl | simp), hBw⟩
def stT (t : Tok) : Int × List UInt8 × Int := (t.k, t.t, t.n)
set_option maxHeartbeats 2000000 in
set_option maxRecDepth 100000 in
theorem alike_yes (ao bo : Option Addr) (ca cb : Nat) (L M : List Tok) (w : World) (hA : Toks w ao L) (hB : Toks w bo M) (hl : L.length ≤ 100000) (hM : L.map stT = M.map stT) :
    Calls Tryd.prog 19 #[.slice ao L.length ca, .slice bo M.length cb] w fun e w' => e = .returned (.bool true) ∧ Below w.heap.size w w' := by
  have hm : M.length = L.length := by have := congrArg List.length hM; simpa using this.symm
  rw [hm]
  generalize hn : L.length = len at *
  have HM := hid hM
  clear hM
  go_enter Tryd.func19, Tryd.ntmps19
  go_wp2_with fail
  go_loopw [5] (fun s5 wr => ∃ k : Nat, s5 = .int .i64 k ∧ k ≤ len ∧ Below w.heap.size w wr) (fun s5 _ => len - (intOf s5).toNat)
  case atStart => exact ⟨0, rfl, by omega, Below.refl _ _⟩
  case round =>
    obtain ⟨k, rfl, hk, hBw⟩ := hrel
    by_cases hkl : k < len
    · obtain ⟨t, ht⟩ : ∃ t, L[k]? = some t := ⟨_, List.getElem?_eq_getElem (by omega)⟩
      obtain ⟨u, hu⟩ : ∃ t, M[k]? = some t := ⟨_, List.getElem?_eq_getElem (by omega)⟩
      have hst : stT t = stT u := by
        have := congrArg (·[k]?) HM.out
        simpa [ht, hu] using this
      obtain ⟨b, off, ea, hb, a0, a1, a2, -⟩ := (hA.below hBw).at ht
      obtain ⟨d, doff, eb, hd, d0, d1, d2, -⟩ := (hB.below hBw).at hu
      subst ea eb
      simp only [stT, Prod.mk.injEq] at hst
      rw [← hst.1] at d0
      rw [← hst.2.1] at d1
      rw [← hst.2.2] at d2
      clear hst hb hd hA hB
      go_wp2_with fail
      refine wp_region_quiet_all (by kernel_rfl) (by kernel_rfl) ?_
      repeat (go_big_quiet_step (fail))
      refine wpQuiet_end ?_
      go_wp2_with fail
      go_roundw
      case rel => exact ⟨k + 1, by go_num, by omega, hBw.drew⟩
      case measure => simp [intOf]; omega
    · obtain rfl : k = len := by omega
      go_wp2_with fail
      go_ret
      exact ⟨ret_bool (by first | rfl | simp), hBw⟩
end Go.Proofs.YtdnpglfmgbcjhaaDoor
