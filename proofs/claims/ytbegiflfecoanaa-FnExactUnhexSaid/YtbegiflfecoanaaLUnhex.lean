/- Unhex: program and reference return the same. No conditions. -/
import Derived.Test.YtbegiflfecoanaaUnhex
namespace Go.Proofs.Ytbegiflfecoanaa
open Go.RowKit

theorem FnExactUnhex_walk (s : ByteArray) (hs : s.size ≤ maxLen) (w : World) : Calls Try.prog 4 #[.string s] w fun e w' => e = .returned (.bool true) ∧ Below w.heap.size w w' := by
  have c1 := fun w => spec_Unhex_any s hs w
  have c2 := fun w => impl_Unhex_any s hs w
  obtain ⟨t, b, ho⟩ := unOut_is s
  rw [ho] at c1 c2
  have C1 := Lib.hid c1
  have C2 := Lib.hid c2
  clear c1 c2 ho
  unfold maxLen at hs
  by_cases hbig : 1048576 < s.size
  · go_enter Try.func4, Try.ntmps4
    go_wp2
    go_ret
    exact ⟨rfl, Below.refl _ _⟩
  · go_enter Try.func4, Try.ntmps4
    go_wp2_with (first
      | (go_at_call 16; refine (C1.out _).mono ?_; rintro e w1 ⟨rfl, hb1⟩)
      | (go_at_call 17; refine (C2.out _).mono ?_; rintro e w2 ⟨rfl, hb2⟩))
    go_ret
    exact ⟨rfl, hb1.trans (hb2.mono hb1.size)⟩
end Go.Proofs.Ytbegiflfecoanaa
