/- An edge copied from the laws' type to the program's. No conditions. -/
import Derived.Test.YtgpjgigmlgoiiaaEdge
namespace Go.Proofs.Ytgpjgigmlgoiiaa
open Go.RowKit
set_option maxRecDepth 100000 in
theorem toEdge_any (a : Ed) (w : World) : Calls Try.prog 88 #[a.val] w fun e w' => e = .returned a.val ∧ Below w.heap.size w w' := by
  obtain ⟨af, al, at_⟩ := a
  unfold Ed.val
  go_enter Try.func88, Try.ntmps88
  go_wp2
  refine bodyPost_ret (v := .agg #[.int .i64 af, .int .u8 al, .int .i64 at_]) (by simp [results, Try.results88, go_sem]) rfl ⟨rfl, ?_⟩
  exact (((Below.refl w.heap.size w).alloc (Nat.le_refl _) _).alloc (by simp) _).alloc (by simp; omega) _

end Go.Proofs.Ytgpjgigmlgoiiaa
