/- Sets of places as bits: bitsIn. No conditions. -/
import Derived.Test.YtjlekcoikceidaaApp
import Derived.Test.YtjlekcoikceidaaIntS
import Derived.Test.YtjlekcoikceidaaBlk
import Derived.Laws.BitsAllLaws
namespace Go.Proofs.Ytjlekcoikceidaa
open Go.RowKit

/-- The places in a set, below k. -/
def bitsTo (S k : Nat) : List Int := ((List.range k).filter (fun i => S.testBit i)).map (fun (i : Nat) => (i : Int))
theorem bitsTo_succ (S k : Nat) : bitsTo S (k + 1) = bitsTo S k ++ (if S.testBit k = true then [(k : Int)] else []) := by
  unfold bitsTo
  rw [List.range_succ, List.filter_append, List.map_append]
  by_cases h : S.testBit k = true <;> simp [h]
theorem bitsTo_len (S k : Nat) : (bitsTo S k).length ≤ k := by
  unfold bitsTo
  rw [List.length_map]
  refine Nat.le_trans (List.length_filter_le _ _) ?_
  simp
theorem bitsTo_mem {S k : Nat} {z : Int} : z ∈ bitsTo S k ↔ ∃ i : Nat, z = i ∧ i < k ∧ S.testBit i = true := by
  unfold bitsTo
  constructor
  · intro h
    obtain ⟨i, hi, rfl⟩ := List.mem_map.1 h
    obtain ⟨h1, h2⟩ := List.mem_filter.1 hi
    exact ⟨i, rfl, List.mem_range.1 h1, h2⟩
  · rintro ⟨i, rfl, h1, h2⟩
    exact List.mem_map.2 ⟨i, List.mem_filter.2 ⟨List.mem_range.2 h1, h2⟩, rfl⟩
/-- The test of one bit, as the walk has it. -/
theorem bit_test (S k : Nat) (hS : S < 4294967296) : (bits .and .u32 ((S : Int) / 2 ^ k) 1 == 1) = S.testBit k := by
  have h1 : (S : Int) / 2 ^ k = ((S / 2 ^ k : Nat) : Int) := by simp
  have h2 : S / 2 ^ k < 4294967296 := Nat.lt_of_le_of_lt (Nat.div_le_self _ _) hS
  rw [h1, show (1 : Int) = ((1 : Nat) : Int) from rfl, u32_and_nat _ 1 h2 (by omega), nat_mask1, Nat.testBit_eq_decide_div_mod_eq]
  rcases Nat.mod_two_eq_zero_or_one (S / 2 ^ k) with h | h <;> simp [h]

set_option maxRecDepth 100000 in
set_option maxHeartbeats 1600000 in
theorem bitsIn_any (S : Nat) (w : World) (hS : S < 4294967296) :
    Calls Try.prog 23 #[.int .u32 S] w (MadeI w (bitsTo S 32)) := by
  obtain ⟨i0, hi, hz0, hz1, hz2⟩ := info_parts Try.infoInt
  go_enter Try.func23, Try.ntmps23
  go_wp2
  go_loopw [3, 5] (fun v i wr => ∃ k : Nat, k ≤ 32 ∧ i = .int .i64 k ∧ wr.ownsRow w.heap.size 3 1 v (bitsTo S k).length ((bitsTo S k).map (Value.int .i64)) ∧ Below w.heap.size w wr) (fun _ i _ => 32 - (intOf i).toNat)
  case atStart => exact ⟨0, by omega, rfl, by simpa [bitsTo] using World.ownsRow_nil w w.heap.size 3 1, Below.refl _ _⟩
  case round =>
    obtain ⟨k, hk, rfl, hown, hb⟩ := hrel
    have hlen := bitsTo_len S k
    by_cases hlt : k < 32
    · have ht := bit_test S k hS
      have hsc := bitsTo_succ S k
      have HSC := Lib.hid hsc
      clear hsc
      by_cases hbit : S.testBit k = true
      · rw [hbit] at ht
        have HO := Lib.hid hown
        have HBIT := Lib.hid hbit
        clear hown hbit
        go_wp2_with (first
          | (at_builtin
             refine wpList_append_own _ rfl (.tmp 14) (.tmp 16) 47 rfl w.heap.size 3 i0 (.int .i64 0) 1 8 Try.underlying47 hi hz0 hz1 hz2 rfl (by decide) _ _ _ rfl (HO.out.alloc _) ⟨wr.heap.size, 0, none⟩ 1 1 [.int .i64 k] rfl rfl (cell_one_new _ _ _) (by intro u hu; simp at hu; subst hu; rfl) (by unfold maxLen; omega) (by omega) (by have := hb.size; simp; omega) ?_
             intro v1 w3 hown3 hg3 _))
        clear ht
        go_roundw
        case rel =>
          refine ⟨k + 1, by omega, by go_num, ?_, ?_⟩
          · rw [HSC.out, if_pos HBIT.out, List.length_append, List.map_append]
            exact hown3
          · exact (hb.alloc hb.size _).grown hg3 (by have := hb.size; simp; omega) (fun r hr => (HO.out.lt r hr).1)
        case measure => simp [intOf]; omega
      · have hbf : S.testBit k = false := by simpa using hbit
        rw [hbf] at ht
        have HBIT := Lib.hid hbit
        clear hbit hbf
        go_wp2
        clear ht
        go_roundw
        case rel =>
          refine ⟨k + 1, by omega, by go_num, ?_, hb⟩
          rw [HSC.out, if_neg HBIT.out, List.append_nil]
          exact hown
        case measure => simp [intOf]; omega
    · obtain rfl : k = 32 := by omega
      obtain ⟨A1, c1, rfl, _, _⟩ := own_slice hown
      have HO := Lib.hid hown
      clear hown
      go_wp2
      go_ret
      exact ⟨A1, c1, rfl, HO.out, hb⟩
end Go.Proofs.Ytjlekcoikceidaa
