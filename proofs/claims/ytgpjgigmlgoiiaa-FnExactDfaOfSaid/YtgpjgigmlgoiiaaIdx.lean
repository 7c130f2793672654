/- slices.Index at sets. No conditions but the length. -/
import Derived.Test.YtgpjgigmlgoiiaaRel
namespace Go.Proofs.Ytgpjgigmlgoiiaa
open Go.RowKit
set_option maxRecDepth 100000 in

set_option maxHeartbeats 1600000 in
theorem Index_any (A : Option Addr) (c : Nat) (rs : List Nat) (x : Nat) (w : World) (hx : RdU w A rs) (hn : rs.length ≤ 4294967296) :
    Calls Try.prog 48 #[.slice A rs.length c, .int .u32 x] w fun e w' => ((x ∉ rs ∧ e = .returned (.int .i64 (-1))) ∨ (∃ k, k < rs.length ∧ rs.getD k 0 = x ∧ e = .returned (.int .i64 k))) ∧ w = w' := by
  have HX := Lib.hid hx
  clear hx
  go_enter Try.func48, Try.ntmps48
  go_wp2
  go_loopw [8] (fun i wr => ∃ (k : Nat), k ≤ rs.length ∧ i = .int .i64 k ∧ Hid (∀ j, j < k → rs.getD j 0 ≠ x) ∧ Hid (w = wr)) (fun i _ => rs.length - (intOf i).toNat)
  case atStart => exact ⟨0, Nat.zero_le _, rfl, Lib.hid (fun j hj => absurd hj (by omega)), Lib.hid rfl⟩
  case round =>
    obtain ⟨k, hk, rfl, HD, hw⟩ := hrel
    have hw := hw.out
    subst hw
    by_cases hlt : k < rs.length
    · obtain ⟨ad, rfl, z0⟩ := HX.out.at_ hlt
      obtain ⟨y, hy⟩ : ∃ y, rs.getD k 0 = y := ⟨_, rfl⟩
      rw [hy] at z0
      have HY := Lib.hid hy
      have k0 : (0 : Int) ≤ (k : Int) := by omega
      have k1 : (k : Int) < (rs.length : Int) := by omega
      clear hy
      by_cases hxy : x = y
      · have n1 : ((x : Int) == (y : Int)) = true := by rw [beq_iff_eq]; omega
        have HE := Lib.hid hxy
        clear hxy
        go_wp2
        go_ret
        exact ⟨.inr ⟨k, hlt, HY.out.trans HE.out.symm, rfl⟩, rfl⟩
      · have n1 : ((x : Int) == (y : Int)) = false := by rw [beq_eq_false_iff_ne]; omega
        have HE := Lib.hid hxy
        clear hxy
        go_wp2
        go_roundw
        case rel =>
          refine ⟨k + 1, by omega, by go_num, Lib.hid (fun j hj => ?_), Lib.hid (by first | trivial | rfl)⟩
          by_cases e : j = k
          · subst e; rw [HY.out]; exact fun h => HE.out h.symm
          · exact HD.out j (by omega)
        case measure => simp [intOf]; omega
    · obtain rfl : k = rs.length := by omega
      have HNO : Hid (x ∉ rs) := Lib.hid (fun h => by
        obtain ⟨j, hj, e⟩ := List.getElem_of_mem h
        exact HD.out j hj (by simp [List.getD, hj, e]))
      go_wp2
      go_ret
      exact ⟨.inl ⟨HNO.out, rfl⟩, rfl⟩
end Go.Proofs.Ytgpjgigmlgoiiaa
