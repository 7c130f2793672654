/- The order of edges: reference and program. No conditions. An edge copied from the laws' type to the program's. No conditions. -/
import Derived.Test.YtjlekcoikceidaaCmp
import Derived.Deep.RegionHeld3
import Derived.Deep.QuietTactic
import Derived.BigQuiet
namespace Go.Proofs.Ytjlekcoikceidaa
open Go.RowKit

/-- An edge: from, label, to. -/
structure Ed where
  f : Int
  l : Int
  t : Int
def Ed.val (e : Ed) : Value := .agg #[.int .i64 e.f, .int .u8 e.l, .int .i64 e.t]
def edCmp (a b : Ed) : Int := if a.l ≠ b.l ∧ a.f = b.f then a.l - b.l else cmpI [a.f, a.t] [b.f, b.t]
def edLess (a b : Ed) : Bool := if a.f = b.f then (if a.l = b.l then decide (a.t < b.t) else decide (a.l < b.l)) else decide (a.f < b.f)

theorem edCmp_less (a b : Ed) : decide (edCmp a b < 0) = edLess a b := by
  obtain ⟨af, al, at_⟩ := a
  obtain ⟨bf, bl, bt⟩ := b
  unfold edCmp edLess
  simp only [cmpI]
  by_cases h1 : af = bf
  · subst h1
    by_cases h2 : al = bl
    · subst h2
      rcases (by omega : at_ < bt ∨ at_ = bt ∨ bt < at_) with h | h | h
      · simp [h]
      · simp [h]
      · simp [h, Int.lt_irrefl, show ¬ at_ < bt by omega]
    · simp [h2]; omega
  · rcases (by omega : af < bf ∨ bf < af) with h | h
    · simp [h1, h]
    · simp [h1, h, show ¬ af < bf by omega]

end Go.Proofs.Ytjlekcoikceidaa
namespace Go.Proofs.Ytjlekcoikceidaa
open Go.RowKit
end Go.Proofs.Ytjlekcoikceidaa
