/- RowLess: program and reference return the same, and leave their arguments as they were. No conditions. -/
import Derived.Test.YtbegiflfecoanaaIntS
import Derived.Test.YtbegiflfecoanaaRow2
import Derived.Test.YtbegiflfecoanaaOpen
namespace Go.Proofs.Ytbegiflfecoanaa
open Go.RowKit

set_option maxHeartbeats 1600000 in
theorem FnExactRowLess_walk (w : World) (v0 : Value) (xs : List Int) (h0 : SlK w .i64 v0 xs) (v1 : Value) (ys : List Int) (h1 : SlK w .i64 v1 ys) :
    Calls Try.prog 11 #[v0, v1] w fun e w' => e = .returned (.bool true) ∧ Below w.heap.size w w' := by
  obtain ⟨A, n, c, rfl, hx, hnc, hcm, _⟩ := h0
  obtain ⟨B, m, d, rfl, hy, hmd, hdm, _⟩ := h1
  have hx0 : RdI w A n xs := hx
  have hy0 : RdI w B m ys := hy
  clear hx hy
  have hl := hx0.len
  have hl2 := hy0.len
  subst hl hl2
  unfold maxLen at hcm hdm
  by_cases hb1 : 1048576 < xs.length
  · go_enter Try.func11, Try.ntmps11
    go_wp2
    go_ret
    exact ⟨rfl, Below.refl _ _⟩
  · by_cases hb2 : 1048576 < ys.length
    · go_enter Try.func11, Try.ntmps11
      go_wp2
      go_ret
      exact ⟨rfl, Below.refl _ _⟩
    · obtain ⟨r, hr⟩ : ∃ r, rowLess xs ys = r := ⟨_, rfl⟩
      have HR := Lib.hid hr
      clear hr
      have q1 := Lib.hid (eqL_yes (rfl : xs = xs))
      have q2 := Lib.hid (eqL_yes (rfl : ys = ys))
      go_enter Try.func11, Try.ntmps11
      go_wp2_with fail
      refine (toIntS_any _ _ _ xs _ hx0 (by omega)).mono ?_
      rintro e w1 ⟨A1, cA1, rfl, hoA1, k1⟩
      have hx1 := hx0.below k1
      have hy1 := hy0.below k1
      have rA1_1 := MadeI.rd hoA1
      clear hoA1
      go_wp2_with fail
      refine (toIntS_any _ _ _ ys _ hy1 (by omega)).mono ?_
      rintro e w2 ⟨B1, cB1, rfl, hoB1, k2⟩
      have hx2 := hx1.below k2
      have hy2 := hy1.below k2
      have rB1_2 := MadeI.rd hoB1
      clear hoB1
      have rA1_2 := rA1_1.below k2
      go_wp2_with fail
      refine (spec_RowLess_any _ _ _ _ _ _ xs ys _ rA1_2 rB1_2 (by omega) (by omega)).mono ?_
      rw [HR.out]
      rintro e w3 ⟨rfl, k3⟩
      have hx3 := hx2.below k3
      have hy3 := hy2.below k3
      clear rA1_1 rA1_2 rB1_2
      go_wp2_with fail
      refine (toIntS_any _ _ _ xs _ hx3 (by omega)).mono ?_
      rintro e w4 ⟨A2, cA2, rfl, hoA2, k4⟩
      have hx4 := hx3.below k4
      have hy4 := hy3.below k4
      have rA2_4 := MadeI.rd hoA2
      clear hoA2
      go_wp2_with fail
      refine (toIntS_any _ _ _ ys _ hy4 (by omega)).mono ?_
      rintro e w5 ⟨B2, cB2, rfl, hoB2, k5⟩
      have hx5 := hx4.below k5
      have hy5 := hy4.below k5
      have rB2_5 := MadeI.rd hoB2
      clear hoB2
      have rA2_5 := rA2_4.below k5
      go_wp2_with fail
      refine (impl_RowLess_any _ _ _ _ _ _ xs ys _ rA2_5 rB2_5 (by omega) (by omega)).mono ?_
      rw [HR.out]
      rintro e w5' ⟨rfl, rfl⟩
      go_wp2_with fail
      refine (toIntS_any _ _ _ xs _ hx5 (by omega)).mono ?_
      rintro e w6 ⟨A3, cA3, rfl, hoA3, k6⟩
      have hx6 := hx5.below k6
      have hy6 := hy5.below k6
      have rA3_6 := MadeI.rd hoA3
      clear hoA3
      have rA2_6 := rA2_5.below k6
      have rB2_6 := rB2_5.below k6
      go_wp2_with fail
      refine (eqIntS_any _ _ _ _ _ _ xs xs _ rA2_6 rA3_6 (by omega)).mono ?_
      rw [q1.out]
      rintro e w7 ⟨rfl, k7⟩
      have hx7 := hx6.below k7
      have hy7 := hy6.below k7
      have rB2_7 := rB2_6.below k7
      go_wp2_with fail
      refine (toIntS_any _ _ _ ys _ hy7 (by omega)).mono ?_
      rintro e w8 ⟨B3, cB3, rfl, hoB3, k8⟩
      have hx8 := hx7.below k8
      have hy8 := hy7.below k8
      have rB3_8 := MadeI.rd hoB3
      clear hoB3
      have rB2_8 := rB2_7.below k8
      go_wp2_with fail
      refine (eqIntS_any _ _ _ _ _ _ ys ys _ rB2_8 rB3_8 (by omega)).mono ?_
      rw [q2.out]
      rintro e w9 ⟨rfl, k9⟩
      go_wp2
      go_ret
      exact ⟨rfl, below_step (below_step (below_step (below_step (below_step (below_step (below_step (below_step k1 k2) k3) k4) k5) k6) k7) k8) k9⟩
end Go.Proofs.Ytbegiflfecoanaa
