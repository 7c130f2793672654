/- OwnerOf: both functions return the same. No conditions. -/
import Derived.Test.YtlnphcongijfiaaFour
import Derived.Test.YtlnphcongijfiaaVar
import Derived.Test.YtlnphcongijfiaaIn
import Derived.Deep.RegionWith
namespace Go.Proofs.Ytlnphcongijfiaa
open Go.RowKit

def owner (v n : Int) : Int := if 1 ≤ n ∧ n ≤ 8 ∧ 0 ≤ v ∧ v ≤ 11 then (crc (strOfNums (vt v.toNat)) : Int) % n else 0
theorem vt_small_size (v : Nat) (h : v ≤ 1000000000) : (strOfNums (vt v)).size ≤ maxLen := by
  rw [strOfNums_size]
  have := vt_len 4 v (by omega)
  unfold maxLen
  omega

set_option maxRecDepth 100000 in
theorem spec_OwnerOf_any (v n : Int) (w : World) : Calls Try.prog 121 #[.int .i64 v, .int .i64 n] w fun e w' => e = .returned (.int .i64 (owner v n)) ∧ Below w.heap.size w w' := by
  by_cases hn : 1 ≤ n ∧ n ≤ 8
  · by_cases hv : 0 ≤ v ∧ v ≤ 11
    · rw [show owner v n = (crc (strOfNums (vt v.toNat)) : Int) % n from if_pos ⟨hn.1, hn.2, hv.1, hv.2⟩]
      obtain ⟨x, rfl⟩ := Int.eq_ofNat_of_zero_le hv.1
      rw [Int.toNat_natCast]
      have k1 : (decide ((1 : Int) ≤ n) && decide (n ≤ 8)) = true := by simp; omega
      have k2 : (decide ((0 : Int) ≤ (x : Int)) && decide ((x : Int) ≤ 11)) = true := by simp; omega
      have K1 := Lib.hid k1
      have K2 := Lib.hid k2
      clear k1 k2
      obtain ⟨hn1, hn2⟩ := hn
      have hx : x ≤ 11 := by omega
      have hlt := crc_lt (strOfNums (vt x))
      have hm0 : 0 ≤ (crc (strOfNums (vt x)) : Int) % n := Int.emod_nonneg _ (by omega)
      have hm1 : (crc (strOfNums (vt x)) : Int) % n < 8 := by have := Int.emod_lt_of_pos (crc (strOfNums (vt x)) : Int) (by omega : 0 < n); omega
      have C := Lib.hid (fun w => spec_SumOf_any (strOfNums (vt x)) (vt_small_size x (by omega)) w)
      have D := Lib.hid (fun w => spec_l01Var_any x (by omega) w)
      clear hv
      go_enter Try.func121, Try.ntmps121
      go_wp2_with (first
        | (go_at_call_of 107 (Value.int IntKind.i64 1); refine (spec_l01In_any _ _ _ _).mono ?_; rw [K1.out]; rintro e w1 ⟨rfl, rfl⟩)
        | (go_at_call_of 107 (Value.int IntKind.i64 0); refine (spec_l01In_any _ _ _ _).mono ?_; rw [K2.out]; rintro e w1 ⟨rfl, rfl⟩)
        | (go_at_call 140; refine (D.out _).mono ?_; rintro e w1 ⟨rfl, hb⟩)
        | (go_at_call 139; refine (C.out _).mono ?_; rintro e w2 ⟨rfl, rfl⟩))
      go_ret
      exact ⟨rfl, hb⟩
    · rw [show owner v n = 0 from if_neg fun h => hv ⟨h.2.2.1, h.2.2.2⟩]
      have k1 : (decide ((1 : Int) ≤ n) && decide (n ≤ 8)) = true := by simp; omega
      have k2 : (decide ((0 : Int) ≤ v) && decide (v ≤ 11)) = false := by simp; omega
      have K1 := Lib.hid k1
      have K2 := Lib.hid k2
      clear k1 k2 hn hv
      go_enter Try.func121, Try.ntmps121
      go_wp2_with (first
        | (go_at_call_of 107 (Value.int IntKind.i64 1); refine (spec_l01In_any _ _ _ _).mono ?_; rw [K1.out]; rintro e w1 ⟨rfl, rfl⟩)
        | (go_at_call_of 107 (Value.int IntKind.i64 0); refine (spec_l01In_any _ _ _ _).mono ?_; rw [K2.out]; rintro e w1 ⟨rfl, rfl⟩))
      go_ret
      exact ⟨rfl, Below.refl _ _⟩
  · rw [show owner v n = 0 from if_neg fun h => hn ⟨h.1, h.2.1⟩]
    have k1 : (decide ((1 : Int) ≤ n) && decide (n ≤ 8)) = false := by simp; omega
    have K1 := Lib.hid k1
    clear k1 hn
    go_enter Try.func121, Try.ntmps121
    go_wp2_with (go_at_call_of 107 (Value.int IntKind.i64 1); refine (spec_l01In_any _ _ _ _).mono ?_; rw [K1.out]; rintro e w1 ⟨rfl, rfl⟩)
    go_ret
    exact ⟨rfl, Below.refl _ _⟩

set_option maxRecDepth 100000 in
theorem impl_OwnerOf_any (v n : Int) (w : World) : Calls Try.prog 32 #[.int .i64 v, .int .i64 n] w fun e w' => e = .returned (.int .i64 (owner v n)) ∧ Below w.heap.size w w' := by
  by_cases hn : 1 ≤ n ∧ n ≤ 8 ∧ 0 ≤ v ∧ v ≤ 11
  · rw [show owner v n = (crc (strOfNums (vt v.toNat)) : Int) % n from if_pos hn]
    obtain ⟨hn1, hn2, hv1, hv2⟩ := hn
    obtain ⟨x, rfl⟩ := Int.eq_ofNat_of_zero_le hv1
    rw [Int.toNat_natCast]
    have hx : x ≤ 11 := by omega
    have hlt := crc_lt (strOfNums (vt x))
    have hm0 : 0 ≤ (crc (strOfNums (vt x)) : Int) % n := Int.emod_nonneg _ (by omega)
    have hm1 : (crc (strOfNums (vt x)) : Int) % n < 8 := by have := Int.emod_lt_of_pos (crc (strOfNums (vt x)) : Int) (by omega : 0 < n); omega
    have C := Lib.hid (fun w => impl_SumOf_any (strOfNums (vt x)) (vt_small_size x (by omega)) w)
    have D := Lib.hid (fun w => impl_varText_any x (by omega) w)
    go_enter Try.func32, Try.ntmps32
    go_wp2_with (first
      | (go_at_call 75; refine (D.out _).mono ?_; rintro e w1 ⟨rfl, hb⟩)
      | (go_at_call 74; refine (C.out _).mono ?_; rintro e w2 ⟨rfl, rfl⟩))
    go_ret
    exact ⟨rfl, hb⟩
  · rw [show owner v n = 0 from if_neg hn]
    rcases (by omega : n < 1 ∨ (1 ≤ n ∧ 8 < n) ∨ (1 ≤ n ∧ n ≤ 8 ∧ v < 0) ∨ (1 ≤ n ∧ n ≤ 8 ∧ 0 ≤ v ∧ 12 ≤ v)) with h1 | ⟨h1, h2⟩ | ⟨h1, h2, h3⟩ | ⟨h1, h2, h3, h4⟩
    all_goals
      clear hn
      go_enter Try.func32, Try.ntmps32
      go_wp2
      go_ret
      exact ⟨rfl, Below.refl _ _⟩
end Go.Proofs.Ytlnphcongijfiaa
