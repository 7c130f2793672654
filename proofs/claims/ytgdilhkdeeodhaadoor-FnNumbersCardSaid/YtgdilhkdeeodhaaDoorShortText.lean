/- ShortText: program and reference return the same. No conditions. -/
import Derived.Test.YtgdilhkdeeodhaaDoorVar
namespace Go.Proofs.YtgdilhkdeeodhaaDoor
open Go.RowKit

def shortOut (s : ByteArray) : Value := if s.size ≤ 20000 then .tuple #[.string (strOfNums (vt s.size) ++ s), .bool true] else .tuple #[.string ⟨#[]⟩, .bool false]
theorem shortOut_is (s : ByteArray) : ∃ t b, shortOut s = .tuple #[.string t, .bool b] := by
  unfold shortOut
  split
  · exact ⟨_, _, rfl⟩
  · exact ⟨_, _, rfl⟩

set_option maxRecDepth 100000 in
theorem impl_ShortText_any (s : ByteArray) (hs : s.size ≤ maxLen) (w : World) : Calls Tryd.prog 13 #[.string s] w fun e w' => e = .returned (shortOut s) ∧ Below w.heap.size w w' := by
  unfold maxLen at hs
  by_cases h : s.size ≤ 20000
  · have hv : shortOut s = .tuple #[.string (strOfNums (vt s.size) ++ s), .bool true] := if_pos h
    rw [hv]
    clear hv
    have hvl : (strOfNums (vt s.size)).size ≤ 5 := by rw [strOfNums_size]; exact vt_len 4 _ (by omega)
    go_enter Tryd.func13, Tryd.ntmps13
    go_wp2_with (go_at_call 21; refine (impl_varText_any s.size (by omega) _).mono ?_; rintro e w1 ⟨rfl, hb⟩)
    go_ret2
    exact ⟨rfl, hb⟩
  · have hv : shortOut s = .tuple #[.string ⟨#[]⟩, .bool false] := if_neg h
    rw [hv]
    clear hv
    go_enter Tryd.func13, Tryd.ntmps13
    go_wp2
    go_ret2
    exact ⟨rfl, Below.refl _ _⟩

end Go.Proofs.YtgdilhkdeeodhaaDoor
