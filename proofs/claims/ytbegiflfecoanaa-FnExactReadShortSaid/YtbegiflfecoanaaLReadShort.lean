/- ReadShort: program and reference return the same. No conditions. -/
import Derived.Test.YtbegiflfecoanaaReadShort
namespace Go.Proofs.Ytbegiflfecoanaa
open Go.RowKit
theorem FnExactReadShort_walk (s : ByteArray) (_hs : s.size ≤ maxLen) (i : Int) (_hi : (Lit.int .i64 i).wf = true) (w : World) : Calls Try.prog 8 #[.string s, .int .i64 i] w fun e w' => e = .returned (.bool true) ∧ Below w.heap.size w w' := by
  by_cases hbig : 1048576 < s.size
  · go_enter Try.func8, Try.ntmps8
    go_wp2
    go_ret
    exact ⟨rfl, Below.refl _ _⟩
  · have c1 := fun w => spec_ReadShort_any s (by omega) i w
    have c2 := fun w => impl_ReadShort_any s (by omega) i w
    obtain ⟨n, e, b, ho⟩ := rsVal_is (rsOut s i)
    rw [ho] at c1 c2
    have C1 := Lib.hid c1
    have C2 := Lib.hid c2
    clear c1 c2 ho
    go_enter Try.func8, Try.ntmps8
    go_wp2_with (first
      | (go_at_call 24; refine (C1.out _).mono ?_; rintro e w1 ⟨rfl, hb1⟩)
      | (go_at_call 25; refine (C2.out _).mono ?_; rintro e w2 ⟨rfl, hb2⟩))
    go_ret
    exact ⟨rfl, hb1.trans (hb2.mono hb1.size)⟩
end Go.Proofs.Ytbegiflfecoanaa
