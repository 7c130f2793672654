/- l01In: is x between two bounds. No conditions. -/
import Derived.Test.YtbegiflfecoanaaKit
namespace Go.Proofs.Ytbegiflfecoanaa
open Go.RowKit
theorem spec_l01In_any (x lo hi : Int) (w : World) : Calls Try.prog 44 #[.int .i64 x, .int .i64 lo, .int .i64 hi] w fun e w' => e = .returned (.bool (decide (lo ≤ x) && decide (x ≤ hi))) ∧ w = w' := by
  by_cases h1 : lo ≤ x <;> by_cases h2 : x ≤ hi
  all_goals
    go_enter Try.func44, Try.ntmps44
    go_wp2
    go_ret
    simp [*]
end Go.Proofs.Ytbegiflfecoanaa
