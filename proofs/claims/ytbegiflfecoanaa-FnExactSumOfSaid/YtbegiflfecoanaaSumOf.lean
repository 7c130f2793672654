/- SumOf: program and reference return the same. No conditions. -/
import Derived.Test.YtbegiflfecoanaaFour
namespace Go.Proofs.Ytbegiflfecoanaa
open Go.RowKit
theorem FnExactSumOf_walk (s : ByteArray) (hs : s.size ≤ maxLen) (w : World) : Calls Try.prog 3 #[.string s] w fun e w' => e = .returned (.bool true) ∧ Below w.heap.size w w' := by
  have C1 := Lib.hid (fun w => spec_SumOf_any s hs w)
  have C2 := Lib.hid (fun w => impl_SumOf_any s hs w)
  unfold maxLen at hs
  by_cases hbig : 1048576 < s.size
  all_goals
    go_enter Try.func3, Try.ntmps3
    go_wp2_with (first
      | (go_at_call 14; refine (C1.out _).mono ?_; rintro e w1 ⟨rfl, rfl⟩)
      | (go_at_call 15; refine (C2.out _).mono ?_; rintro e w2 ⟨rfl, rfl⟩))
    go_ret
    exact ⟨rfl, Below.refl _ _⟩
end Go.Proofs.Ytbegiflfecoanaa
