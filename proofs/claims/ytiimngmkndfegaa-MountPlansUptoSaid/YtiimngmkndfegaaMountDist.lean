/- mount: the statements' distances -/
import Derived.Test.YtiimngmkndfegaaMountParts
namespace Go.Proofs.Ytiimngmkndfegaa
open Go.RowKit

theorem ldist_any (a b : Int) (ha : -1000 ≤ a) (hb : -1000 ≤ b) (ha' : a ≤ 1000) (hb' : b ≤ 1000) (w : World) : Calls Try.prog 17 #[.int .i64 a, .int .i64 b] w fun e w' => e = .returned (.int .i64 (max (a-b) (b-a))) ∧ w = w' := by
  go_enter Try.func17, Try.ntmps17
  go_wp2
  all_goals go_ret
  all_goals exact ⟨ret_int (by omega), rfl⟩
theorem around_any (a b : Int) (ha : -1000 ≤ a) (hb : -1000 ≤ b) (ha' : a ≤ 1000) (hb' : b ≤ 1000) (w : World) : Calls Try.prog 18 #[.int .i64 a, .int .i64 b] w fun e w' => e = .returned (.int .i64 (aroundF a b)) ∧ w = w' := by
  have hd0 : 0 ≤ max (a - b) (b - a) := by omega
  go_enter Try.func18, Try.ntmps18
  go_wp2_with (go_at_call 17; refine (ldist_any _ _ ha hb ha' hb' _).mono ?_; rintro e w' ⟨rfl, rfl⟩)
  all_goals go_ret
  all_goals exact ⟨ret_int (by unfold aroundF; omega), rfl⟩

end Go.Proofs.Ytiimngmkndfegaa
