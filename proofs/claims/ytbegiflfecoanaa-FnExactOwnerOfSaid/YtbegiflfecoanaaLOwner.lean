/- OwnerOf: program and reference return the same. No conditions. -/
import Derived.Test.YtbegiflfecoanaaOwner
namespace Go.Proofs.Ytbegiflfecoanaa
open Go.RowKit
theorem FnExactOwnerOf_walk (v : Int) (_hv : (Lit.int .i64 v).wf = true) (n : Int) (_hn : (Lit.int .i64 n).wf = true) (w : World) : Calls Try.prog 9 #[.int .i64 v, .int .i64 n] w fun e w' => e = .returned (.bool true) ∧ Below w.heap.size w w' := by
  have C1 := Lib.hid (fun w => spec_OwnerOf_any v n w)
  have C2 := Lib.hid (fun w => impl_OwnerOf_any v n w)
  go_enter Try.func9, Try.ntmps9
  go_wp2_with (first
    | (go_at_call 26; refine (C1.out _).mono ?_; rintro e w1 ⟨rfl, hb1⟩)
    | (go_at_call 27; refine (C2.out _).mono ?_; rintro e w2 ⟨rfl, hb2⟩))
  go_ret
  exact ⟨rfl, hb1.trans (hb2.mono hb1.size)⟩
end Go.Proofs.Ytbegiflfecoanaa
