/- the reference's Width; tokens as values -/
import Derived.Test.YtgkgpfennlkcnaaDoorLexTok
namespace Go.Proofs.YtgkgpfennlkcnaaDoor
open Go.RowKit

theorem Toks.at {w : World} {ao : Option Addr} {ts : List Tok} (h : Toks w ao ts) {i : Nat} {t : Tok} (ht : ts[i]? = some t) :
    ∃ b off, ao = some ⟨b, off, none⟩ ∧ b < w.heap.size ∧ w.cell? ⟨b, off + i * 4, none⟩ = some (.int .i64 t.k) ∧ w.cell? ⟨b, off + i * 4 + 1, none⟩ = some (.string ⟨t.t.toArray⟩) ∧
      w.cell? ⟨b, off + i * 4 + 2, none⟩ = some (.int .i64 t.n) ∧ w.cell? ⟨b, off + i * 4 + 3, none⟩ = some (.int .i64 t.at_) := by
  obtain ⟨b, off, e, hb, c0, c1, c2, c3⟩ := h.get ht
  have e0 : off + (4 * i + 0) = off + i * 4 := by omega
  have e1 : off + (4 * i + 1) = off + i * 4 + 1 := by omega
  have e2 : off + (4 * i + 2) = off + i * 4 + 2 := by omega
  have e3 : off + (4 * i + 3) = off + i * 4 + 3 := by omega
  rw [e0] at c0; rw [e1] at c1; rw [e2] at c2; rw [e3] at c3
  exact ⟨b, off, e, hb, c0, c1, c2, c3⟩
def tokW (t : Tok) : Value := .agg #[.int .i64 t.k, .string ⟨t.t.toArray⟩, .int .i64 t.n, .int .i64 t.at_]
theorem tok_world (k : Int) (t : List UInt8) (n at_ : Int) (w : World) : ∃ w0 : World, (w.alloc (.cells #[.int .i64 k, .string ⟨t.toArray⟩, .int .i64 n, .int .i64 at_] 68)) = w0 ∧ Blk w0 w.heap.size 68 [.int .i64 k, .string ⟨t.toArray⟩, .int .i64 n, .int .i64 at_] ∧ Below w.heap.size w w0 :=
  ⟨_, rfl, Blk.new w _ _, below_alloc w _⟩
def widT (t : Tok) : Nat := if t.k = 3 then t.t.length + 2 else t.t.length
theorem width_any (t : Tok) (w : World) (hs : t.t.length ≤ 100000) : Calls Tryd.prog 44 #[tokW t] w fun e w' => e = .returned (.int .i64 (widT t)) ∧ Below w.heap.size w w' := by
  have hsz : (⟨t.t.toArray⟩ : ByteArray).size = t.t.length := by show t.t.toArray.size = _; simp
  obtain ⟨k, tt, n, at_⟩ := t
  unfold tokW
  dsimp only at *
  by_cases hk : k = 3
  · have e : ((widT ⟨k, tt, n, at_⟩ : Nat) : Int) = tt.length + 2 := by unfold widT; rw [if_pos hk]; push_cast; rfl
    rw [e]
    go_enter Tryd.func44, Tryd.ntmps44
    go_wp2_with fail
    go_ret
    exact ⟨rfl, below_alloc w _⟩
  · have e : ((widT ⟨k, tt, n, at_⟩ : Nat) : Int) = tt.length := by unfold widT; rw [if_neg hk]
    rw [e]
    go_enter Tryd.func44, Tryd.ntmps44
    go_wp2_with fail
    go_ret
    exact ⟨rfl, below_alloc w _⟩
end Go.Proofs.YtgkgpfennlkcnaaDoor
