/- weather: conditions compared -/
import Derived.Test.YtbkheiilcfhfpaaDoorWeaAt2
namespace Go.Proofs.YtbkheiilcfhfpaaDoor
open Go.RowKit

theorem arr4_eq (d : Nat) (a0 a1 a2 a3 b0 b1 b2 b3 : Int) (w : World) :
    (Op.equalIn (d + 2) 24 (.agg #[.int .i64 a0, .int .i64 a1, .int .i64 a2, .int .i64 a3]) (.agg #[.int .i64 b0, .int .i64 b1, .int .i64 b2, .int .i64 b3])).run Tryd.prog w = .ok (a0 == b0 && (a1 == b1 && (a2 == b2 && a3 == b3))) w := by
  have hp : ∀ (xs : Array Value) (i : Nat) (x : Int) (w : World), xs[i]? = some (.int .i64 x) → (part 3 xs (i * 1)).run Tryd.prog w = .ok (.int .i64 x) w := by
    intro xs i x w h
    simp [go_sem, part, h]
  have he : ∀ (x y : Int) (w : World), (Op.equalIn (d + 1) 3 (.int .i64 x) (.int .i64 y)).run Tryd.prog w = .ok (x == y) w := fun x y w => run_equalIn_int w d _ .i64 .i64 x y Tryd.underlying3
  have hs : ∀ w, (sizeOf 3).run Tryd.prog w = .ok 1 w := by intro w; kernel_rfl
  rw [Op.equalIn]
  simp only [Sem.run_bind, run_underlying Tryd.underlying24, Result.andThen_ok, hs]
  simp [List.range', hp, he, go_sem]
  repeat' split
  all_goals simp_all
theorem cd_eql (c d : Cd) (w : World) : (binOp .eql 26 c.v d.v).run Tryd.prog w = .ok (.bool (decide (c = d))) w := by
  obtain ⟨a0, a1, a2, a3, s, o⟩ := c
  obtain ⟨b0, b1, b2, b3, s', o'⟩ := d
  have ha := arr4_eq 9997 a0 a1 a2 a3 b0 b1 b2 b3 w
  have hd : decide ((⟨a0, a1, a2, a3, s, o⟩ : Cd) = ⟨b0, b1, b2, b3, s', o'⟩) = ((a0 == b0 && (a1 == b1 && (a2 == b2 && a3 == b3))) && (s == s' && o == o')) := by
    rw [Bool.eq_iff_iff]
    simp
    constructor <;> (intro h; simp_all)
  rw [hd]
  simp only [Cd.v, Cd.cells]
  generalize (a0 == b0 && (a1 == b1 && (a2 == b2 && a3 == b3))) = e at *
  cases e
  · simp [go_sem, ha]
  · simp [go_sem, ha]
    repeat' split
    all_goals simp_all
theorem cd_neq (c d : Cd) (w : World) : (binOp .neq 26 c.v d.v).run Tryd.prog w = .ok (.bool (!decide (c = d))) w := by
  have h := cd_eql c d w
  simp only [Cd.v] at *
  rw [run_eql_struct] at h
  rw [run_neq_struct]
  generalize (Op.equalIn 10000 26 (.agg c.cells.toArray) (.agg d.cells.toArray)).run Tryd.prog w = r at *
  cases r with
  | ok b w' => simp [Result.andThen] at h ⊢; obtain ⟨rfl, rfl⟩ := h; exact ⟨rfl, rfl⟩
  | halt x w' => simp [Result.andThen] at h
end Go.Proofs.YtbkheiilcfhfpaaDoor
