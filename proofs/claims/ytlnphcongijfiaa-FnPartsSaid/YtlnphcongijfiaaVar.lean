/- The variable-length form of a number: both functions that write it return the same bytes. Conditions: the number is not negative and at most 10^9. -/
import Derived.Test.YtlnphcongijfiaaKit
namespace Go.Proofs.Ytlnphcongijfiaa
open Go.RowKit

def vt (n : Nat) : List Int := if 127 < n then (128 + (n : Int) % 128) :: vt (n / 128) else [(n : Int)]
termination_by n
decreasing_by omega

theorem vt_big {n : Nat} (h : 127 < n) : vt n = (128 + (n : Int) % 128) :: vt (n / 128) := by rw [vt, if_pos h]
theorem vt_small {n : Nat} (h : ¬ 127 < n) : vt n = [(n : Int)] := by rw [vt, if_neg h]
theorem vt_len : ∀ (k n : Nat), n < 128 ^ (k + 1) → (vt n).length ≤ k + 1
  | 0, n, h => by rw [vt_small (by omega)]; simp
  | k + 1, n, h => by
    by_cases hb : 127 < n
    · rw [vt_big hb, List.length_cons]
      have := vt_len k (n / 128) (by rw [Nat.pow_succ] at h; omega)
      omega
    · rw [vt_small hb]; simp

set_option maxRecDepth 100000 in
set_option maxHeartbeats 400000 in
theorem impl_varText_any (n : Nat) (hn : n ≤ 1000000000) (w : World) :
    Calls Try.prog 75 #[.int .i64 n] w fun e w' => e = .returned (.string (strOfNums (vt n))) ∧ Below w.heap.size w w' := by
  obtain ⟨i0, hi, hz0, hz1, hz2⟩ := info_parts Try.infoU8
  go_enter Try.func75, Try.ntmps75
  go_wp2
  go_loopw [3, 0] (fun v m wr => ∃ (k : Nat) (zs : List Int), k ≤ 1000000000 ∧ m = .int .i64 k ∧ Hid (zs ++ vt k = vt n) ∧ wr.ownsRow w.heap.size 5 1 v zs.length (zs.map (Value.int .u8)) ∧ Below w.heap.size w wr)
    (fun _ m _ => (intOf m).toNat)
  case atStart => exact ⟨n, [], hn, rfl, rfl, World.ownsRow_nil _ _ _ _, Below.refl _ _⟩
  case round =>
    obtain ⟨k, zs, hk, rfl, hvt, hown, hb⟩ := hrel
    have hzl : zs.length ≤ 5 := by
      have h1 := vt_len 4 n (by omega)
      have h2 := congrArg List.length hvt.out
      rw [List.length_append] at h2
      omega
    have hpos : 0 ≤ (k : Int) % 128 ∧ (k : Int) % 128 < 128 := ⟨by omega, by omega⟩
    by_cases hbig : 127 < k
    · have HV := vt_big hbig
      have HH := Lib.hid HV
      clear HV
      go_wp2_with (first
        | (at_builtin
           refine wpList_append_own _ rfl (.tmp 6) (.tmp 11) 54 rfl w.heap.size 5 i0 (.int .u8 0) 1 1 Try.underlying54 hi hz0 hz1 hz2 rfl (by decide) _ _ _ rfl (hown.alloc _) ⟨wr.heap.size, 0, none⟩ 1 1 [.int .u8 (128 + (k : Int) % 128)] rfl rfl (cell_one_new _ _ _) (by intro u hu; simp at hu; subst hu; rfl) (by unfold maxLen; omega) (by omega) (by have := hb.size; simp; omega) ?_
           intro v1 w1 hown1 hg1 _))
      go_roundw
      case rel =>
        have e1 : (zs.map (Value.int .u8)) ++ [.int .u8 (128 + (k : Int) % 128)] = (zs ++ [128 + (k : Int) % 128]).map (Value.int .u8) := by simp
        rw [e1] at hown1
        have hw1 : Below w.heap.size w (wr.alloc (.cells #[.int .u8 (128 + (k : Int) % 128)] 5)) := hb.alloc hb.size _
        refine ⟨k / 128, zs ++ [128 + (k : Int) % 128], by omega, by go_num, ?_, ?_, hw1.grown hg1 (by have := hb.size; simp; omega) (fun g hg => (hown.lt g hg).1)⟩
        · show _ = _
          rw [← hvt.out, HH.out, List.append_assoc]
          rfl
        · rw [List.length_append]; exact hown1
      case measure => simp [intOf]; omega
    · have HV := vt_small hbig
      have HH := Lib.hid HV
      clear HV
      go_wp2_with (first
        | (at_builtin
           refine wpList_append_own _ rfl (.tmp 15) (.tmp 18) 54 rfl w.heap.size 5 i0 (.int .u8 0) 1 1 Try.underlying54 hi hz0 hz1 hz2 rfl (by decide) _ _ _ rfl (hown.alloc _) ⟨wr.heap.size, 0, none⟩ 1 1 [.int .u8 (k : Int)] rfl rfl (cell_one_new _ _ _) (by intro u hu; simp at hu; subst hu; rfl) (by unfold maxLen; omega) (by omega) (by have := hb.size; simp; omega) ?_
           intro v1 w1 hown1 hg1 _
           have hcv := run_string_own (P := Try.prog) w1 54 9 5 Try.underlying54 Try.underlying5 Try.underlying9 (zs := zs ++ [(k : Int)]) (by rw [List.map_append]; exact hown1)))
      go_ret
      refine ⟨ret_str (by rw [← hvt.out, HH.out]), ?_⟩
      exact (hb.alloc hb.size _).grown hg1 (by have := hb.size; simp; omega) (fun g hg => (hown.lt g hg).1)

set_option maxRecDepth 100000 in
set_option maxHeartbeats 400000 in
theorem spec_l01Var_any (n : Nat) (hn : n ≤ 1000000000) (w : World) :
    Calls Try.prog 140 #[.int .i64 n] w fun e w' => e = .returned (.string (strOfNums (vt n))) ∧ Below w.heap.size w w' := by
  obtain ⟨i0, hi, hz0, hz1, hz2⟩ := info_parts Try.infoU8
  go_enter Try.func140, Try.ntmps140
  go_wp2
  go_loopw [3, 0] (fun v m wr => ∃ (k : Nat) (zs : List Int), k ≤ 1000000000 ∧ m = .int .i64 k ∧ Hid (zs ++ vt k = vt n) ∧ wr.ownsRow w.heap.size 5 1 v zs.length (zs.map (Value.int .u8)) ∧ Below w.heap.size w wr)
    (fun _ m _ => (intOf m).toNat)
  case atStart => exact ⟨n, [], hn, rfl, rfl, World.ownsRow_made w #[] 0 (Nat.le_refl _) (by unfold maxLen; omega) rfl, (Below.refl _ _).alloc (Nat.le_refl _) _⟩
  case round =>
    obtain ⟨k, zs, hk, rfl, hvt, hown, hb⟩ := hrel
    have hzl : zs.length ≤ 5 := by
      have h1 := vt_len 4 n (by omega)
      have h2 := congrArg List.length hvt.out
      rw [List.length_append] at h2
      omega
    have hpos : 0 ≤ (k : Int) % 128 ∧ (k : Int) % 128 < 128 := ⟨by omega, by omega⟩
    by_cases hbig : 127 < k
    · have HV := vt_big hbig
      have HH := Lib.hid HV
      clear HV
      go_wp2_with (first
        | (at_builtin
           refine wpList_append_own _ rfl (.tmp 7) (.tmp 12) 54 rfl w.heap.size 5 i0 (.int .u8 0) 1 1 Try.underlying54 hi hz0 hz1 hz2 rfl (by decide) _ _ _ rfl (hown.alloc _) ⟨wr.heap.size, 0, none⟩ 1 1 [.int .u8 ((k : Int) % 128 + 128)] rfl rfl (cell_one_new _ _ _) (by intro u hu; simp at hu; subst hu; rfl) (by unfold maxLen; omega) (by omega) (by have := hb.size; simp; omega) ?_
           intro v1 w1 hown1 hg1 _))
      go_roundw
      case rel =>
        have e1 : (zs.map (Value.int .u8)) ++ [.int .u8 ((k : Int) % 128 + 128)] = (zs ++ [(k : Int) % 128 + 128]).map (Value.int .u8) := by simp
        rw [e1] at hown1
        have hw1 : Below w.heap.size w (wr.alloc (.cells #[.int .u8 ((k : Int) % 128 + 128)] 5)) := hb.alloc hb.size _
        refine ⟨k / 128, zs ++ [(k : Int) % 128 + 128], by omega, by go_num, ?_, ?_, hw1.grown hg1 (by have := hb.size; simp; omega) (fun g hg => (hown.lt g hg).1)⟩
        · show _ = _
          rw [← hvt.out, HH.out, List.append_assoc, Int.add_comm]
          rfl
        · rw [List.length_append]; exact hown1
      case measure => simp [intOf]; omega
    · have HV := vt_small hbig
      have HH := Lib.hid HV
      clear HV
      go_wp2_with (first
        | (at_builtin
           refine wpList_append_own _ rfl (.tmp 16) (.tmp 19) 54 rfl w.heap.size 5 i0 (.int .u8 0) 1 1 Try.underlying54 hi hz0 hz1 hz2 rfl (by decide) _ _ _ rfl (hown.alloc _) ⟨wr.heap.size, 0, none⟩ 1 1 [.int .u8 (k : Int)] rfl rfl (cell_one_new _ _ _) (by intro u hu; simp at hu; subst hu; rfl) (by unfold maxLen; omega) (by omega) (by have := hb.size; simp; omega) ?_
           intro v1 w1 hown1 hg1 _
           have hcv := run_string_own (P := Try.prog) w1 54 9 5 Try.underlying54 Try.underlying5 Try.underlying9 (zs := zs ++ [(k : Int)]) (by rw [List.map_append]; exact hown1)))
      go_ret
      refine ⟨ret_str (by rw [← hvt.out, HH.out]), ?_⟩
      exact (hb.alloc hb.size _).grown hg1 (by have := hb.size; simp; omega) (fun g hg => (hown.lt g hg).1)

end Go.Proofs.Ytlnphcongijfiaa
