/- ReadVar: program and reference return the same. No conditions. -/
import Derived.Test.YtbegiflfecoanaaReadVar
namespace Go.Proofs.Ytbegiflfecoanaa
open Go.RowKit
theorem FnExactReadVar_walk (s : ByteArray) (_hs : s.size ≤ maxLen) (i : Int) (_hi : (Lit.int .i64 i).wf = true) (w : World) : Calls Try.prog 5 #[.string s, .int .i64 i] w fun e w' => e = .returned (.bool true) ∧ Below w.heap.size w w' := by
  by_cases hbig : 1048576 < s.size
  · go_enter Try.func5, Try.ntmps5
    go_wp2
    go_ret
    exact ⟨rfl, Below.refl _ _⟩
  · have c1 := fun w => spec_ReadVar_any s (by omega) i w
    have c2 := fun w => impl_ReadVar_any s (by omega) i w
    obtain ⟨n, e, b, ho⟩ := rvVal_is (rvOut s i)
    rw [ho] at c1 c2
    have C1 := Lib.hid c1
    have C2 := Lib.hid c2
    clear c1 c2 ho
    go_enter Try.func5, Try.ntmps5
    go_wp2_with (first
      | (go_at_call 18; refine (C1.out _).mono ?_; rintro e w1 ⟨rfl, hb1⟩)
      | (go_at_call 19; refine (C2.out _).mono ?_; rintro e w2 ⟨rfl, rfl⟩))
    go_ret
    exact ⟨rfl, hb1⟩
end Go.Proofs.Ytbegiflfecoanaa
