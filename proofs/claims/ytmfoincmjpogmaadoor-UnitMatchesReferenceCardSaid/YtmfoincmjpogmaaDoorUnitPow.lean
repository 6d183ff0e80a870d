/- unit: Power -/
import Derived.Test.YtmfoincmjpogmaaDoorUnitMul
namespace Go.Proofs.YtmfoincmjpogmaaDoor
open Go.RowKit

theorem unit1_worlds (u : U) (w : World) : ∃ w0 : World, ((w.alloc (.cells #[.int .i64 u.a, .int .i64 u.b, .int .i64 u.c] 23)).alloc (.cells #[.int .i64 0, .int .i64 0, .int .i64 0] 23)) = w0 ∧ Blk w0 w.heap.size 23 (uCells u) ∧
    Blk w0 (w.heap.size + 1) 23 [.int .i64 0, .int .i64 0, .int .i64 0] ∧ Below w.heap.size w w0 := by
  refine ⟨_, rfl, (Blk.new w _ _).alloc _, ?_, ((Below.refl _ w).alloc (Nat.le_refl _) _).alloc (by simp) _⟩
  have := Blk.new (w.alloc (.cells #[.int .i64 u.a, .int .i64 u.b, .int .i64 u.c] 23)) #[.int .i64 0, .int .i64 0, .int .i64 0] 23
  simp only [World.size_alloc] at this
  exact this

def clampN (n : Int) : Int := max (-9) (min 9 n)
def sclU (u : U) (n : Int) : U := ⟨u.a * n, u.b * n, u.c * n⟩
def powR (u : U) (n : Int) : U × Int := if vB u = true then (if u = u0 then (u0, 0) else if vB (sclU u (clampN n)) = true then (sclU u (clampN n), 0) else (u0, 9)) else (u0, 1)
theorem mul_bd {a c : Int} (h1 : -8 ≤ a) (h2 : a ≤ 8) (h3 : -9 ≤ c) (h4 : c ≤ 9) : -72 ≤ a * c ∧ a * c ≤ 72 := by
  obtain rfl | rfl | rfl | rfl | rfl | rfl | rfl | rfl | rfl | rfl | rfl | rfl | rfl | rfl | rfl | rfl | rfl : a = -8 ∨ a = -7 ∨ a = -6 ∨ a = -5 ∨ a = -4 ∨ a = -3 ∨ a = -2 ∨ a = -1 ∨ a = 0 ∨ a = 1 ∨ a = 2 ∨ a = 3 ∨ a = 4 ∨ a = 5 ∨ a = 6 ∨ a = 7 ∨ a = 8 := by omega
  all_goals omega
end Go.Proofs.YtmfoincmjpogmaaDoor
