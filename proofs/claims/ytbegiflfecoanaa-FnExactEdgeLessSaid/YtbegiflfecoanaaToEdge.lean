/- An edge copied from the laws' type to the program's. No conditions. -/
import Derived.Test.YtbegiflfecoanaaEdge
namespace Go.Proofs.Ytbegiflfecoanaa
open Go.RowKit
theorem toEdge_any (a : Ed) (w : World) : Calls Try.prog 29 #[a.val] w fun e w' => e = .returned a.val ∧ Below w.heap.size w w' := by
  obtain ⟨af, al, at_⟩ := a
  unfold Ed.val
  go_enter Try.func29, Try.ntmps29
  go_wp2
  refine bodyPost_ret (v := .agg #[.int .i64 af, .int .u8 al, .int .i64 at_]) (by simp [results, Try.results29, go_sem]) rfl ⟨rfl, ?_⟩
  exact (((Below.refl w.heap.size w).alloc (Nat.le_refl _) _).alloc (by simp) _).alloc (by simp; omega) _

end Go.Proofs.Ytbegiflfecoanaa
