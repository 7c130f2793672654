/- SumMore: both functions return the same number. No conditions but the sum's range. -/
import Derived.Test.YtlnphcongijfiaaKit
import Derived.Test.YtlnphcongijfiaaSumP
namespace Go.Proofs.Ytlnphcongijfiaa
open Go.RowKit
set_option maxRecDepth 100000 in

set_option maxHeartbeats 400000 in
theorem spec_SumMore_any (x : Nat) (hx : x < 4294967296) (s : ByteArray) (hs : s.size ≤ maxLen) (w : World) :
    Calls Try.prog 156 #[.int .u32 x, .string s] w fun e w' => e = .returned (.int .u32 (crcTo s x s.size : Nat)) ∧ w = w' := by
  unfold maxLen at hs
  go_enter Try.func156, Try.ntmps156
  go_wp2
  go_loop [0, 5] (fun u i => ∃ k y : Nat, k ≤ s.size ∧ i = .int .i64 k ∧ u = .int .u32 y ∧ y < 4294967296 ∧ Hid (y = crcTo s x k)) (fun _ i => s.size - (intOf i).toNat)
  case atStart => exact ⟨0, x, Nat.zero_le _, rfl, rfl, hx, rfl⟩
  case round =>
    obtain ⟨k, y, hk, rfl, rfl, hy, HY⟩ := hrel
    by_cases hlt : k < s.size
    · go_wp2
      go_loop [0, 6] (fun u j => ∃ m z : Nat, m ≤ 8 ∧ j = .int .i64 m ∧ u = .int .u32 z ∧ z < 4294967296 ∧ Hid (z = crcN m (y ^^^ s[k].toNat))) (fun _ j => 8 - (intOf j).toNat)
      case atStart => exact ⟨0, y ^^^ s[k].toNat, by omega, rfl, val_u32 (xor_val' hy (byte_lt _)), xor_lt hy (byte_lt _), rfl⟩
      case round =>
        obtain ⟨m, z, hm, rfl, rfl, hz, HZ⟩ := hrel
        by_cases hm8 : m < 8
        · by_cases ho : z % 2 = 1
          · have ho' : ((z : Int) % 2 == 1) = true := by rw [beq_iff_eq]; omega
            have HO := Lib.hid ho
            clear ho
            go_wp2
            go_round
            case rel => exact ⟨m + 1, crcStep z, by omega, by go_num, val_u32 (step_odd HO.out hz), crcStep_lt hz, congrArg crcStep HZ.out⟩
            case measure => simp [intOf]; omega
          · have ho' : ((z : Int) % 2 == 1) = false := by rw [beq_eq_false_iff_ne]; omega
            have HO := Lib.hid ho
            clear ho
            go_wp2
            go_round
            case rel => exact ⟨m + 1, crcStep z, by omega, by go_num, val_u32 (step_even HO.out), crcStep_lt hz, congrArg crcStep HZ.out⟩
            case measure => simp [intOf]; omega
        · go_wp2
          obtain rfl : m = 8 := by omega
          go_round
          case rel => exact ⟨k + 1, z, by omega, by go_num, rfl, hz, by show _ = _; rw [crcTo_succ s x k hlt, ← HY.out]; exact HZ.out⟩
          case measure => simp [intOf]; omega
    · go_wp2
      go_ret
      obtain rfl : k = s.size := by omega
      exact ⟨ret_u32 (by rw [HY.out]), rfl⟩

set_option maxRecDepth 100000 in
set_option maxHeartbeats 400000 in
theorem impl_SumMore_any (x : Nat) (hx : x < 4294967296) (s : ByteArray) (hs : s.size ≤ maxLen) (w : World) :
    Calls Try.prog 120 #[.int .u32 x, .string s] w fun e w' => e = .returned (.int .u32 (crcTo s x s.size : Nat)) ∧ w = w' := by
  unfold maxLen at hs
  go_enter Try.func120, Try.ntmps120
  go_wp2
  go_loop [0, 5] (fun u i => ∃ k y : Nat, k ≤ s.size ∧ i = .int .i64 k ∧ u = .int .u32 y ∧ y < 4294967296 ∧ Hid (y = crcTo s x k)) (fun _ i => s.size - (intOf i).toNat)
  case atStart => exact ⟨0, x, Nat.zero_le _, rfl, rfl, hx, rfl⟩
  case round =>
    obtain ⟨k, y, hk, rfl, rfl, hy, HY⟩ := hrel
    by_cases hlt : k < s.size
    · go_wp2
      go_loop [0, 19] (fun u j => ∃ m z : Nat, m ≤ 8 ∧ j = .int .i64 m ∧ u = .int .u32 z ∧ z < 4294967296 ∧ Hid (z = crcN m (y ^^^ s[k].toNat))) (fun _ j => 8 - (intOf j).toNat)
      case atStart => exact ⟨0, y ^^^ s[k].toNat, by omega, rfl, val_u32 (xor_val' hy (byte_lt _)), xor_lt hy (byte_lt _), rfl⟩
      case round =>
        obtain ⟨m, z, hm, rfl, rfl, hz, HZ⟩ := hrel
        by_cases hm8 : m < 8
        · by_cases ho : z % 2 = 1
          · have ho' : (bits .and .u32 (z : Int) 1 == 1) = true := by rw [and_val hz, beq_iff_eq]; omega
            have HO := Lib.hid ho
            clear ho
            go_wp2
            go_round
            case rel => exact ⟨m + 1, crcStep z, by omega, by go_num, val_u32 (step_odd HO.out hz), crcStep_lt hz, congrArg crcStep HZ.out⟩
            case measure => simp [intOf]; omega
          · have ho' : (bits .and .u32 (z : Int) 1 == 1) = false := by rw [and_val hz, beq_eq_false_iff_ne]; omega
            have HO := Lib.hid ho
            clear ho
            go_wp2
            go_round
            case rel => exact ⟨m + 1, crcStep z, by omega, by go_num, val_u32 (step_even HO.out), crcStep_lt hz, congrArg crcStep HZ.out⟩
            case measure => simp [intOf]; omega
        · go_wp2
          obtain rfl : m = 8 := by omega
          go_round
          case rel => exact ⟨k + 1, z, by omega, by go_num, rfl, hz, by show _ = _; rw [crcTo_succ s x k hlt, ← HY.out]; exact HZ.out⟩
          case measure => simp [intOf]; omega
    · go_wp2
      go_ret
      obtain rfl : k = s.size := by omega
      exact ⟨ret_u32 (by rw [HY.out]), rfl⟩

end Go.Proofs.Ytlnphcongijfiaa
