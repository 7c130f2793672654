/- Unsealed: program and reference return the same. No conditions. -/
import Derived.Test.YtbegiflfecoanaaSealed
namespace Go.Proofs.Ytbegiflfecoanaa
open Go.RowKit

theorem FnExactUnsealed_walk (s : ByteArray) (hs : s.size ≤ maxLen) (w : World) : Calls Try.prog 7 #[.string s] w fun e w' => e = .returned (.bool true) ∧ Below w.heap.size w w' := by
  have c1 := fun w => spec_Unsealed_any s hs w
  have c2 := fun w => impl_Unsealed_any s hs w
  obtain ⟨t, b, ho⟩ := unsealedOut_is s
  rw [ho] at c1 c2
  have C1 := Lib.hid c1
  have C2 := Lib.hid c2
  clear c1 c2 ho
  unfold maxLen at hs
  by_cases hbig : 1048576 < s.size
  · go_enter Try.func7, Try.ntmps7
    go_wp2
    go_ret
    exact ⟨rfl, Below.refl _ _⟩
  · go_enter Try.func7, Try.ntmps7
    go_wp2_with (first
      | (go_at_call 22; refine (C1.out _).mono ?_; rintro e w1 ⟨rfl, hb1⟩)
      | (go_at_call 23; refine (C2.out _).mono ?_; rintro e w2 ⟨rfl, hb2⟩))
    go_ret
    exact ⟨rfl, hb1.trans (hb2.mono hb1.size)⟩
end Go.Proofs.Ytbegiflfecoanaa
