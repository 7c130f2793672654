/- laws.in: is a number in a list. No conditions but the length. -/
import Derived.Test.YtnhanakeijplcaaIntS
namespace Go.Proofs.Ytnhanakeijplcaa
open Go.RowKit
set_option maxRecDepth 100000 in

set_option maxHeartbeats 800000 in
theorem laws_in_any (A : Option Addr) (n c : Nat) (zs : List Int) (x : Int) (w : World) (hx : RdI w A n zs) (hn : n ≤ 4294967296) :
    Calls Try.prog 19 #[.slice A n c, .int .i64 x] w fun e w' => e = .returned (.bool (decide (x ∈ zs))) ∧ w = w' := by
  have hlen := hx.len
  subst hlen
  have HX := Lib.hid hx
  clear hx
  obtain ⟨r, hr⟩ : ∃ r, decide (x ∈ zs) = r := ⟨_, rfl⟩
  rw [hr]
  have HR := Lib.hid hr
  clear hr
  go_enter Try.func19, Try.ntmps19
  go_wp2
  go_loop [5] (fun i => ∃ (j : Nat), j ≤ zs.length ∧ i = .int .i64 j ∧ Hid (x ∉ zs.take j)) (fun i => zs.length - (intOf i).toNat)
  case atStart => exact ⟨0, Nat.zero_le _, rfl, Lib.hid (by simp)⟩
  case round =>
    obtain ⟨j, hj, rfl, HN⟩ := hrel
    by_cases hlt : j < zs.length
    · obtain ⟨ad, rfl, hc⟩ := HX.out.at_ hlt
      have he : zs.getD j 0 = zs[j] := by simp [List.getD, List.getElem?_eq_getElem hlt]
      rw [he] at hc
      obtain ⟨y, hy⟩ : ∃ y, zs[j] = y := ⟨_, rfl⟩
      rw [hy] at hc
      have HY := Lib.hid hy
      clear hy he
      by_cases hyx : y = x
      · have e1 : (y == x) = true := by simp [hyx]
        have hrt : r = true := by
          rw [← HR.out]
          simp only [decide_eq_true_eq]
          rw [← hyx, ← HY.out]
          exact List.getElem_mem hlt
        clear hyx
        subst hrt
        go_wp2
        go_ret
        exact ⟨rfl, rfl⟩
      · have e1 : (y == x) = false := by simp [hyx]
        have HN2 : Hid (x ∉ zs.take (j + 1)) := by
          refine Lib.hid ?_
          rw [List.take_succ_eq_append_getElem hlt, List.mem_append, HY.out]
          simp
          exact ⟨HN.out, fun h => hyx h.symm⟩
        clear hyx
        go_wp2
        go_round
        case rel => exact ⟨j + 1, by omega, by go_num, HN2⟩
        case measure => simp [intOf]; omega
    · obtain rfl : j = zs.length := by omega
      have hrt : r = false := by
        rw [← HR.out]
        simp only [decide_eq_false_iff_not]
        have := HN.out
        rwa [List.take_of_length_le (Nat.le_refl _)] at this
      subst hrt
      go_wp2
      go_ret
      exact ⟨rfl, rfl⟩
end Go.Proofs.Ytnhanakeijplcaa
