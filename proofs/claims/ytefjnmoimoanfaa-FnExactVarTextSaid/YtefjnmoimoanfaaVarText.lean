/- VarText: program and reference return the same. No conditions. -/
import Derived.Test.YtefjnmoimoanfaaVar
namespace Go.Proofs.Ytefjnmoimoanfaa
open Go.RowKit

/-- What VarText returns: two values. -/
def varTextOut (n : Int) : Value := if 0 ≤ n ∧ n ≤ 1000000000 then .tuple #[.string (strOfNums (vt n.toNat)), .bool true] else .tuple #[.string ⟨#[]⟩, .bool false]

theorem spec_l01In_any (x lo hi : Int) (w : World) : Calls Try.prog 19 #[.int .i64 x, .int .i64 lo, .int .i64 hi] w fun e w' => e = .returned (.bool (decide (lo ≤ x) && decide (x ≤ hi))) ∧ w = w' := by
  by_cases h1 : lo ≤ x <;> by_cases h2 : x ≤ hi
  all_goals
    go_enter Try.func19, Try.ntmps19
    go_wp2
    go_ret
    simp [*]

theorem impl_VarText_any (n : Int) (w : World) : Calls Try.prog 18 #[.int .i64 n] w fun e w' => e = .returned (varTextOut n) ∧ Below w.heap.size w w' := by
  by_cases h : 0 ≤ n ∧ n ≤ 1000000000
  · obtain ⟨h1, h2⟩ := h
    have hv : varTextOut n = .tuple #[.string (strOfNums (vt n.toNat)), .bool true] := if_pos ⟨h1, h2⟩
    rw [hv]
    clear hv
    obtain ⟨m, rfl⟩ := Int.eq_ofNat_of_zero_le h1
    go_enter Try.func18, Try.ntmps18
    go_wp2_with (go_at_call 22; refine (impl_varText_any m (by omega) _).mono ?_; rintro e w1 ⟨rfl, hb⟩)
    go_ret2
    exact ⟨rfl, hb⟩
  · have hv : varTextOut n = .tuple #[.string ⟨#[]⟩, .bool false] := if_neg h
    rw [hv]
    clear hv
    rcases (by omega : n < 0 ∨ 1000000000 < n) with h1 | h1
    all_goals
      clear h
      go_enter Try.func18, Try.ntmps18
      go_wp2
      go_ret2
      exact ⟨rfl, Below.refl _ _⟩

theorem spec_VarText_any (n : Int) (w : World) : Calls Try.prog 17 #[.int .i64 n] w fun e w' => e = .returned (varTextOut n) ∧ Below w.heap.size w w' := by
  by_cases h : 0 ≤ n ∧ n ≤ 1000000000
  · obtain ⟨h1, h2⟩ := h
    have hv : varTextOut n = .tuple #[.string (strOfNums (vt n.toNat)), .bool true] := if_pos ⟨h1, h2⟩
    rw [hv]
    clear hv
    obtain ⟨m, rfl⟩ := Int.eq_ofNat_of_zero_le h1
    go_enter Try.func17, Try.ntmps17
    go_wp2_with (first
      | (go_at_call 19; refine (spec_l01In_any _ _ _ _).mono ?_; rintro e w1 ⟨rfl, rfl⟩)
      | (go_at_call 21; refine (spec_l01Var_any m (by omega) _).mono ?_; rintro e w1 ⟨rfl, hb⟩))
    go_ret2
    exact ⟨rfl, hb⟩
  · have hv : varTextOut n = .tuple #[.string ⟨#[]⟩, .bool false] := if_neg h
    rw [hv]
    clear hv
    have hd : (decide (0 ≤ n) && decide (n ≤ 1000000000)) = false := by simp; omega
    clear h
    go_enter Try.func17, Try.ntmps17
    go_wp2_with (first
      | (go_at_call 19; refine (spec_l01In_any _ _ _ _).mono ?_; rw [hd]; rintro e w1 ⟨rfl, rfl⟩))
    go_ret2
    exact ⟨rfl, Below.refl _ _⟩

theorem FnExactVarText_walk (n : Int) (_h : (Lit.int .i64 n).wf = true) (w : World) : Calls Try.prog 8 #[.int .i64 n] w fun e w' => e = .returned (.bool true) ∧ Below w.heap.size w w' := by
  obtain ⟨s, b, hs⟩ : ∃ s b, varTextOut n = .tuple #[.string s, .bool b] := by
    unfold varTextOut
    split
    · exact ⟨_, _, rfl⟩
    · exact ⟨_, _, rfl⟩
  have c1 := fun w => spec_VarText_any n w
  have c2 := fun w => impl_VarText_any n w
  rw [hs] at c1 c2
  have C1 := Lib.hid c1
  have C2 := Lib.hid c2
  clear c1 c2 hs
  go_enter Try.func8, Try.ntmps8
  go_wp2_with (first
    | (go_at_call 17; refine (C1.out _).mono ?_; rintro e w1 ⟨rfl, hb1⟩)
    | (go_at_call 18; refine (C2.out _).mono ?_; rintro e w2 ⟨rfl, hb2⟩))
  go_ret
  exact ⟨rfl, hb1.trans (hb2.mono hb1.size)⟩
end Go.Proofs.Ytefjnmoimoanfaa
