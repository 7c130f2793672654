/- l01In: is x between two bounds. No conditions. -/
import Derived.Test.YtjlekcoikceidaaKit
namespace Go.Proofs.Ytjlekcoikceidaa
open Go.RowKit
set_option maxRecDepth 100000 in
theorem spec_l01In_any (x lo hi : Int) (w : World) : Calls Try.prog 35 #[.int .i64 x, .int .i64 lo, .int .i64 hi] w fun e w' => e = .returned (.bool (decide (lo ≤ x) && decide (x ≤ hi))) ∧ w = w' := by
  by_cases h1 : lo ≤ x <;> by_cases h2 : x ≤ hi
  all_goals
    go_enter Try.func35, Try.ntmps35
    go_wp2
    go_ret
    simp [*]
end Go.Proofs.Ytjlekcoikceidaa
