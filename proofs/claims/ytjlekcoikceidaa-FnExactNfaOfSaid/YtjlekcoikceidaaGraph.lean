/- Graphs: copied, compared, sized. No conditions but the lengths. -/
import Derived.Test.YtjlekcoikceidaaGMem
import Derived.Deep.RegionHeld3
namespace Go.Proofs.Ytjlekcoikceidaa
open Go.RowKit
/-- Two edges have the same parts. -/
def edEq (a b : Ed) : Bool := decide (a.f = b.f ∧ a.l = b.l ∧ a.t = b.t)
theorem ret_bo {a b : Bool} (h : a = b) : Ending.returned (.bool a) = .returned (.bool b) := by rw [h]
theorem edEq_iff {a b : Ed} : edEq a b = true ↔ a = b := by
  obtain ⟨af, al, at_⟩ := a
  obtain ⟨bf, bl, bt⟩ := b
  simp [edEq]

/-- Two lists of edges are the same. -/
noncomputable def eqE (xs ys : List Ed) : Bool := @decide (xs = ys) (Classical.propDecidable _)
theorem eqE_yes {xs ys : List Ed} (h : xs = ys) : eqE xs ys = true := by simp [eqE, h]
theorem eqE_no {xs ys : List Ed} (h : ¬ xs = ys) : eqE xs ys = false := by simp [eqE, h]

end Go.Proofs.Ytjlekcoikceidaa
