/- spec.l07SameBits. Conditions: the lengths. -/
import Derived.Test.YtgpjgigmlgoiiaaBoolS
import Derived.Test.YtgpjgigmlgoiiaaGraphOk
import Derived.Test.YtgpjgigmlgoiiaaBelowQ
namespace Go.Proofs.Ytgpjgigmlgoiiaa
open Go.RowKit

theorem ret_bb {a b : Bool} (h : a = b) : Ending.returned (.bool a) = .returned (.bool b) := by rw [h]
set_option maxRecDepth 100000 in
set_option maxHeartbeats 1600000 in
theorem sameBits_any (A B : Option Addr) (c d n : Nat) (xs ys : List Bool) (w : World) (hx : RdB w A n xs) (hy : RdB w B n ys) (hn : n ≤ 4294967296) :
    Calls Try.prog 43 #[.slice A n c, .slice B n d] w fun e w' => e = .returned (.bool (PP (xs = ys))) ∧ Below w.heap.size w w' := by
  have HX := Lib.hid hx
  have HY := Lib.hid hy
  have HLX := Lib.hid hx.len
  have HLY := Lib.hid hy.len
  clear hx hy
  go_enter Try.func43, Try.ntmps43
  go_wp2
  go_loopw [5] (fun i wr => ∃ k : Nat, k ≤ n ∧ i = .int .i64 k ∧ Hid (∀ j, j < k → xs.getD j false = ys.getD j false) ∧ Below w.heap.size w wr) (fun i _ => n - (intOf i).toNat)
  case atStart => exact ⟨0, Nat.zero_le _, rfl, Lib.hid (fun j hj => absurd hj (by omega)), Below.refl _ _⟩
  case round =>
    obtain ⟨k, hk, rfl, HD, hb⟩ := hrel
    obtain ⟨wo, rfl⟩ : ∃ wo : World, wo = wr := ⟨_, rfl⟩
    by_cases hlt : k < n
    · obtain ⟨ad, rfl, z0⟩ := (HX.out.below hb).at_ hlt
      obtain ⟨ad2, rfl, z1⟩ := (HY.out.below hb).at_ hlt
      obtain ⟨x, hx⟩ : ∃ x, xs.getD k false = x := ⟨_, rfl⟩
      obtain ⟨y, hy⟩ : ∃ x, ys.getD k false = x := ⟨_, rfl⟩
      rw [hx] at z0
      rw [hy] at z1
      have HXX := Lib.hid hx
      have HYY := Lib.hid hy
      have k0 : (0 : Int) ≤ (k : Int) := by omega
      have k1 : (k : Int) < (n : Int) := by omega
      have q0 := fun p => cellQ z0 p
      have q1 := fun p => cellQ z1 p
      have HB := Lib.hid hb
      clear hx hy hb
      cases x
      · cases y
        · go_wp2_with fail
          refine wp_region_below (by kernel_rfl) (by kernel_rfl) ?_
          repeat (first | go_big_quiet_step (fail) | quiet_step (fail))
          refine wpQuiet_nil ?_
          intro w7 hw'
          obtain ⟨⟨w7, kk⟩, hw''⟩ := hw'
          subst hw''
          have B7 := Lib.hid (below_step HB.out kk)
          clear q0 q1 z0 z1 kk
          have HEQ : Hid (xs.getD k false = ys.getD k false) := Lib.hid (by rw [HXX.out, HYY.out])
          go_wp2
          go_roundw
          case rel =>
            refine ⟨k + 1, by omega, by go_num, Lib.hid (fun j hj => ?_), B7.out⟩
            by_cases e : j = k
            · subst e; exact HEQ.out
            · exact HD.out j (by omega)
          case measure => simp [intOf]; omega
        · go_wp2_with fail
          refine wp_region_below (by kernel_rfl) (by kernel_rfl) ?_
          repeat (first | go_big_quiet_step (fail) | quiet_step (fail))
          refine wpQuiet_nil ?_
          intro w7 hw'
          obtain ⟨⟨w7, kk⟩, hw''⟩ := hw'
          subst hw''
          have B7 := Lib.hid (below_step HB.out kk)
          clear q0 q1 z0 z1 kk
          have HN : Hid (PP (xs = ys) = false) := Lib.hid (PP_no (fun h => by
            have h1 := HXX.out
            rw [h, HYY.out] at h1
            cases h1))
          go_wp2
          go_ret
          exact ⟨ret_bb HN.out.symm, B7.out⟩
      · cases y
        · go_wp2_with fail
          refine wp_region_below (by kernel_rfl) (by kernel_rfl) ?_
          repeat (first | go_big_quiet_step (fail) | quiet_step (fail))
          refine wpQuiet_nil ?_
          intro w7 hw'
          obtain ⟨⟨w7, kk⟩, hw''⟩ := hw'
          subst hw''
          have B7 := Lib.hid (below_step HB.out kk)
          clear q0 q1 z0 z1 kk
          have HN : Hid (PP (xs = ys) = false) := Lib.hid (PP_no (fun h => by
            have h1 := HXX.out
            rw [h, HYY.out] at h1
            cases h1))
          go_wp2
          go_ret
          exact ⟨ret_bb HN.out.symm, B7.out⟩
        · go_wp2_with fail
          refine wp_region_below (by kernel_rfl) (by kernel_rfl) ?_
          repeat (first | go_big_quiet_step (fail) | quiet_step (fail))
          refine wpQuiet_nil ?_
          intro w7 hw'
          obtain ⟨⟨w7, kk⟩, hw''⟩ := hw'
          subst hw''
          have B7 := Lib.hid (below_step HB.out kk)
          clear q0 q1 z0 z1 kk
          have HEQ : Hid (xs.getD k false = ys.getD k false) := Lib.hid (by rw [HXX.out, HYY.out])
          go_wp2
          go_roundw
          case rel =>
            refine ⟨k + 1, by omega, by go_num, Lib.hid (fun j hj => ?_), B7.out⟩
            by_cases e : j = k
            · subst e; exact HEQ.out
            · exact HD.out j (by omega)
          case measure => simp [intOf]; omega
    · obtain rfl : k = n := by omega
      have HY2 : Hid (PP (xs = ys) = true) := Lib.hid (PP_yes (by
        have h1 := HLX.out
        have h2 := HLY.out
        apply List.ext_getElem (by omega)
        intro i h3 h4
        have := HD.out i (by omega)
        simpa [List.getD, h3, h4] using this))
      go_wp2
      go_ret
      exact ⟨ret_bb HY2.out.symm, hb⟩
end Go.Proofs.Ytgpjgigmlgoiiaa
