/- ShortText: program and reference return the same. No conditions. -/
import Derived.Test.YtefjnmoimoanfaaVar
namespace Go.Proofs.Ytefjnmoimoanfaa
open Go.RowKit

def shortOut (s : ByteArray) : Value := if s.size ≤ 20000 then .tuple #[.string (strOfNums (vt s.size) ++ s), .bool true] else .tuple #[.string ⟨#[]⟩, .bool false]
theorem shortOut_is (s : ByteArray) : ∃ t b, shortOut s = .tuple #[.string t, .bool b] := by
  unfold shortOut
  split
  · exact ⟨_, _, rfl⟩
  · exact ⟨_, _, rfl⟩

theorem impl_ShortText_any (s : ByteArray) (hs : s.size ≤ maxLen) (w : World) : Calls Try.prog 16 #[.string s] w fun e w' => e = .returned (shortOut s) ∧ Below w.heap.size w w' := by
  unfold maxLen at hs
  by_cases h : s.size ≤ 20000
  · have hv : shortOut s = .tuple #[.string (strOfNums (vt s.size) ++ s), .bool true] := if_pos h
    rw [hv]
    clear hv
    have hvl : (strOfNums (vt s.size)).size ≤ 5 := by rw [strOfNums_size]; exact vt_len 4 _ (by omega)
    go_enter Try.func16, Try.ntmps16
    go_wp2_with (go_at_call 22; refine (impl_varText_any s.size (by omega) _).mono ?_; rintro e w1 ⟨rfl, hb⟩)
    go_ret2
    exact ⟨rfl, hb⟩
  · have hv : shortOut s = .tuple #[.string ⟨#[]⟩, .bool false] := if_neg h
    rw [hv]
    clear hv
    go_enter Try.func16, Try.ntmps16
    go_wp2
    go_ret2
    exact ⟨rfl, Below.refl _ _⟩

theorem spec_ShortText_any (s : ByteArray) (hs : s.size ≤ maxLen) (w : World) : Calls Try.prog 15 #[.string s] w fun e w' => e = .returned (shortOut s) ∧ Below w.heap.size w w' := by
  unfold maxLen at hs
  by_cases h : s.size ≤ 20000
  · have hv : shortOut s = .tuple #[.string (strOfNums (vt s.size) ++ s), .bool true] := if_pos h
    rw [hv]
    clear hv
    have hvl : (strOfNums (vt s.size)).size ≤ 5 := by rw [strOfNums_size]; exact vt_len 4 _ (by omega)
    go_enter Try.func15, Try.ntmps15
    go_wp2_with (go_at_call 21; refine (spec_l01Var_any s.size (by omega) _).mono ?_; rintro e w1 ⟨rfl, hb⟩)
    go_ret2
    exact ⟨rfl, hb⟩
  · have hv : shortOut s = .tuple #[.string ⟨#[]⟩, .bool false] := if_neg h
    rw [hv]
    clear hv
    go_enter Try.func15, Try.ntmps15
    go_wp2
    go_ret2
    exact ⟨rfl, Below.refl _ _⟩

theorem FnExactShortText_walk (s : ByteArray) (hs : s.size ≤ maxLen) (w : World) : Calls Try.prog 7 #[.string s] w fun e w' => e = .returned (.bool true) ∧ Below w.heap.size w w' := by
  have c1 := fun w => spec_ShortText_any s hs w
  have c2 := fun w => impl_ShortText_any s hs w
  obtain ⟨t, b, ho⟩ := shortOut_is s
  rw [ho] at c1 c2
  have C1 := Lib.hid c1
  have C2 := Lib.hid c2
  clear c1 c2 ho
  unfold maxLen at hs
  by_cases hbig : 1048576 < s.size
  · go_enter Try.func7, Try.ntmps7
    go_wp2
    go_ret
    exact ⟨rfl, Below.refl _ _⟩
  · go_enter Try.func7, Try.ntmps7
    go_wp2_with (first
      | (go_at_call 15; refine (C1.out _).mono ?_; rintro e w1 ⟨rfl, hb1⟩)
      | (go_at_call 16; refine (C2.out _).mono ?_; rintro e w2 ⟨rfl, hb2⟩))
    go_ret
    exact ⟨rfl, hb1.trans (hb2.mono hb1.size)⟩
end Go.Proofs.Ytefjnmoimoanfaa
