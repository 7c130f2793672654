/- VarText: program and reference return the same. No conditions. -/
import Derived.Test.YtgdilhkdeeodhaaDoorVar
import Derived.Test.YtgdilhkdeeodhaaDoorIn
namespace Go.Proofs.YtgdilhkdeeodhaaDoor
open Go.RowKit

/-- What VarText returns: two values. -/
def varTextOut (n : Int) : Value := if 0 ≤ n ∧ n ≤ 1000000000 then .tuple #[.string (strOfNums (vt n.toNat)), .bool true] else .tuple #[.string ⟨#[]⟩, .bool false]

set_option maxRecDepth 100000 in
theorem impl_VarText_any (n : Int) (w : World) : Calls Tryd.prog 8 #[.int .i64 n] w fun e w' => e = .returned (varTextOut n) ∧ Below w.heap.size w w' := by
  by_cases h : 0 ≤ n ∧ n ≤ 1000000000
  · obtain ⟨h1, h2⟩ := h
    have hv : varTextOut n = .tuple #[.string (strOfNums (vt n.toNat)), .bool true] := if_pos ⟨h1, h2⟩
    rw [hv]
    clear hv
    obtain ⟨m, rfl⟩ := Int.eq_ofNat_of_zero_le h1
    go_enter Tryd.func8, Tryd.ntmps8
    go_wp2_with (go_at_call 21; refine (impl_varText_any m (by omega) _).mono ?_; rintro e w1 ⟨rfl, hb⟩)
    go_ret2
    exact ⟨rfl, hb⟩
  · have hv : varTextOut n = .tuple #[.string ⟨#[]⟩, .bool false] := if_neg h
    rw [hv]
    clear hv
    rcases (by omega : n < 0 ∨ 1000000000 < n) with h1 | h1
    all_goals
      clear h
      go_enter Tryd.func8, Tryd.ntmps8
      go_wp2
      go_ret2
      exact ⟨rfl, Below.refl _ _⟩

end Go.Proofs.YtgdilhkdeeodhaaDoor
