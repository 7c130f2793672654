/- GraphOk: the reference's function. No conditions but the labels' range and the size of a length. -/
import Derived.Test.YtjlekcoikceidaaGraphOk
import Derived.Test.YtjlekcoikceidaaIn
namespace Go.Proofs.Ytjlekcoikceidaa
open Go.RowKit

theorem spec_vtx_any (s v : Int) (w : World) : Calls Try.prog 35 #[.int .i64 v, .int .i64 0, .int .i64 (s - 1)] w fun e w' => e = .returned (.bool (vtxB s v)) ∧ Below w.heap.size w w' := by
  refine (spec_l01In_any v 0 (s - 1) w).mono ?_
  rintro e w1 ⟨rfl, rfl⟩
  refine ⟨?_, Below.refl _ _⟩
  unfold vtxB
  have : decide (v ≤ s - 1) = decide (v < s) := by apply decide_eq_decide.2; omega
  rw [this]

theorem spec_vtx_same (s v : Int) (n : Nat) (w : World) : Calls Try.prog 35 #[.int .i64 v, .int .i64 0, .int .i64 (s - 1)] (w.drewN n) fun e w' => e = .returned (.bool (vtxB s v)) ∧ w' = w.drewN n := by
  refine (spec_l01In_any v 0 (s - 1) _).mono ?_
  rintro e w1 ⟨rfl, rfl⟩
  refine ⟨?_, rfl⟩
  unfold vtxB
  have : decide (v ≤ s - 1) = decide (v < s) := by apply decide_eq_decide.2; omega
  rw [this]

end Go.Proofs.Ytjlekcoikceidaa
