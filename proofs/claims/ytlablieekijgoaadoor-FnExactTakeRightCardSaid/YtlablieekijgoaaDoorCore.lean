/- What small functions on numbers compute; no condition. -/
import Derived.Test.YtlablieekijgoaaDoorRows
import Derived.Test.YtlablieekijgoaaDoorData
namespace Go.Proofs.YtlablieekijgoaaDoor
open Go.RowKit Go.Sort Go.Rd

set_option maxHeartbeats 400000 in
theorem l1In_ok (x a b : Int) (w : World) : Calls Tryd.prog 69 #[.int .i64 x, .int .i64 a, .int .i64 b] w fun e w' => e = .returned (.bool (inB x a b)) ∧ w = w' := by
  by_cases h : a ≤ x <;> by_cases h2 : x ≤ b
  all_goals
    go_enter Tryd.func69, Tryd.ntmps69
    go_wp2
    go_ret
    exact ⟨ret_bool (by simp [inB, h, h2]), rfl⟩
set_option maxHeartbeats 400000 in
theorem within_ok (x a b : Int) (w : World) : Calls Tryd.prog 48 #[.int .i64 x, .int .i64 a, .int .i64 b] w fun e w' => e = .returned (.bool (inB x a b)) ∧ w = w' := by
  by_cases h : a ≤ x <;> by_cases h2 : x ≤ b
  all_goals
    go_enter Tryd.func48, Tryd.ntmps48
    go_wp2
    go_ret
    exact ⟨ret_bool (by simp [inB, h, h2]), rfl⟩

end Go.Proofs.YtlablieekijgoaaDoor
