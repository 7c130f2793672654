/- The size of a code; a code that came in as an argument. No conditions. -/
import Derived.Test.YtlnphcongijfiaaDraw
import Derived.Test.YtlnphcongijfiaaOpen
namespace Go.Proofs.Ytlnphcongijfiaa
open Go.RowKit
set_option maxRecDepth 100000 in

theorem big_any (A : Option Addr) (n c : Nat) (w : World) (hn : n ≤ 9223372036854775807) : Calls Try.prog 28 #[.slice A n c] w fun e w' => e = .returned (.bool (decide (1048576 < n))) ∧ w = w' := by
  by_cases h : 1048576 < n
  · rw [show decide (1048576 < n) = true by simp; omega]
    go_enter Try.func28, Try.ntmps28
    go_wp2
    go_ret
    simp; omega
  · rw [show decide (1048576 < n) = false by simp; omega]
    go_enter Try.func28, Try.ntmps28
    go_wp2
    go_ret
    simp; omega

theorem code0_of {w : World} {v : Value} {zs : List Int} (h : SlK w .u8 v zs) : ∃ A n c, v = .slice A n c ∧ n ≤ 9223372036854775807 ∧ (n ≤ 1048576 → Code0 w A n zs) := by
  obtain ⟨A, n, c, rfl, hx, hnc, hcm, hwf⟩ := h
  refine ⟨A, n, c, rfl, by unfold maxLen at hcm; omega, fun hn => ⟨hx, by omega, fun z hz => ?_⟩⟩
  have := hwf z hz
  simp [Lit.wf, IntKind.min, IntKind.max, IntKind.bits, IntKind.signed] at this
  omega

end Go.Proofs.Ytlnphcongijfiaa
