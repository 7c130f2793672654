/- ReadVar: both functions return the same. No conditions. -/
import Derived.Test.YtgdilhkdeeodhaaDoorRead
import Derived.Test.YtgdilhkdeeodhaaDoorIn
import Derived.Deep.RegionHeld3
import Derived.Deep.QuietTactic
import Derived.BigQuiet
namespace Go.Proofs.YtgdilhkdeeodhaaDoor
open Go.RowKit

theorem rv_step {s : ByteArray} {a k N U : Nat} (hN : N = vTo s a k) (hU : U = 128 ^ k) : N + byteAt s (a + k) % 128 * U = vTo s a (k + 1) := by rw [hN, hU, vTo]
theorem rv_prod {c U : Nat} (hU : U ≤ 268435456) : c % 128 * U ≤ 34091302912 := by
  have h1 : c % 128 * U ≤ 127 * U := Nat.mul_le_mul_right _ (by omega)
  omega
theorem pow_le {k U : Nat} (hU : U = 128 ^ k) (hk : k < 5) : U ≤ 268435456 := by
  rw [hU]
  exact Nat.pow_le_pow_right (n := 128) (by omega) (by omega : k ≤ 4)
theorem rv_lt {s : ByteArray} {a k N : Nat} (hN : N = vTo s a k) (hk : k ≤ 5) : N < 34359738368 := by
  have h := vTo_lt s a k
  have h2 : 128 ^ k ≤ 128 ^ 5 := Nat.pow_le_pow_right (by omega) hk
  have h3 : (128 : Nat) ^ 5 = 34359738368 := by decide
  omega

theorem rv_none {o : Option (Nat × Nat)} (h : o = none) : Ending.returned (.tuple #[.int .i64 0, .int .i64 0, .bool false]) = .returned (rvVal o) := by rw [h]; rfl
theorem rv_some {o : Option (Nat × Nat)} {n e : Nat} {x y : Int} (h : o = some (n, e)) (hx : x = n) (hy : y = e) : Ending.returned (.tuple #[.int .i64 x, .int .i64 y, .bool true]) = .returned (rvVal o) := by rw [h, hx, hy]; rfl

set_option maxHeartbeats 1600000 in
set_option maxRecDepth 100000 in
theorem impl_ReadVar_in (s : ByteArray) (hs : s.size ≤ 4294967296) (a : Nat) (ha : a ≤ s.size) (w : World) :
    Calls Tryd.prog 9 #[.string s, .int .i64 a] w fun e w' => e = .returned (rvVal (rvGo s a 5 0)) ∧ w = w' := by
  have d1 : decide (s.size < a) = false := by simp; omega
  have d2 : decide ((s.size : Int) < (a : Int)) = false := by simp; omega
  have d0 : decide ((a : Int) < 0) = false := by simp
  go_enter Tryd.func9, Tryd.ntmps9
  go_wp2
  go_loop [7, 8, 9] (fun n u i => ∃ k N U : Nat, k ≤ 5 ∧ a + k ≤ s.size ∧ i = .int .i64 k ∧ n = .int .i64 N ∧ u = .int .i64 U ∧ Hid (N = vTo s a k) ∧ Hid (U = 128 ^ k) ∧ Hid (rvGo s a (5 - k) k = rvGo s a 5 0)) (fun _ _ i => 5 - (intOf i).toNat)
  case atStart => exact ⟨0, 0, 1, by omega, ha, rfl, rfl, rfl, rfl, rfl, rfl⟩
  case round =>
    obtain ⟨k, N, U, hk, hak, rfl, rfl, rfl, HN, HU, HG⟩ := hrel
    have hN := rv_lt HN.out hk
    by_cases hk5 : k < 5
    · by_cases hlt : a + k < s.size
      · have hU := pow_le HU.out hk5
        obtain ⟨c, hc⟩ : ∃ c, s[a + k].toNat = c := ⟨_, rfl⟩
        have hb : byteAt s (a + k) = c := by rw [byteAt_eq s _ hlt, hc]
        have hc2 : c < 256 := by rw [← hb]; exact byteAt_lt s _
        obtain ⟨p, hp⟩ : ∃ p, p = c % 128 * U := ⟨_, rfl⟩
        have hp2 : p ≤ 34091302912 := by rw [hp]; exact rv_prod hU
        have hP : (c : Int) % 128 * (U : Int) = (p : Int) := by rw [hp]; simp
        have HS : Hid (N + p = vTo s a (k + 1)) := by
          have := rv_step HN.out HU.out
          rw [hb, ← hp] at this
          exact this
        have HB := Lib.hid hb
        clear hp hb HN
        obtain ⟨f, hf⟩ : ∃ f, 5 - k = f + 1 := ⟨4 - k, by omega⟩
        have HF := Lib.hid hf
        clear hf
        by_cases hbig : 128 ≤ c
        · go_wp2
          go_round
          case rel =>
            refine ⟨k + 1, N + p, U * 128, by omega, by omega, by go_num, by go_num, by go_num, HS.out, ?_, ?_⟩
            · show _ = _
              rw [HU.out, Nat.pow_succ]
            · show _ = _
              rw [← HG.out, HF.out, rvGo_on hlt (by rw [HB.out]; omega), show 5 - (k + 1) = f by have := HF.out; omega]
          case measure => simp [intOf]; omega
        · by_cases hz : c = 0 ∧ 0 < k
          · obtain ⟨hz0, hk0⟩ := hz
            have z1 : ((c : Int) == 0) = true := by rw [beq_iff_eq]; omega
            have z2 : c = 0 ∧ 0 < k := ⟨hz0, hk0⟩
            have Z := Lib.hid z2
            clear z2 hz0
            go_wp2
            all_goals
              go_ret3
              exact ⟨rv_none (by rw [← HG.out, HF.out]; exact rvGo_no hlt (by rw [HB.out]; omega) (by rw [HB.out]; exact fun h => h.2 Z.out)), rfl⟩
          · have Z := Lib.hid hz
            have hz2 : (c ≤ 0 ∧ k ≤ 0) ∨ 1 ≤ c := by omega
            clear hz
            by_cases hmax : N + p ≤ 1000000000
            · rcases hz2 with ⟨hz2, hz3⟩ | hz2
              all_goals
                go_wp2
                go_ret3
                exact ⟨rv_some (o := rvGo s a 5 0) (n := vTo s a (k + 1)) (e := a + k + 1) (by rw [← HG.out, HF.out]; exact rvGo_yes hlt (by rw [HB.out]; omega) (by rw [← HS.out]; exact hmax) (by rw [HB.out]; exact Z.out)) (by rw [← HS.out]; omega) (by omega), rfl⟩
            · rcases hz2 with ⟨hz2, hz3⟩ | hz2
              all_goals
                go_wp2
                go_ret3
                exact ⟨rv_none (by rw [← HG.out, HF.out]; exact rvGo_no hlt (by rw [HB.out]; omega) (by rw [← HS.out]; exact fun h => hmax h.1)), rfl⟩
      · go_wp2
        go_ret3
        exact ⟨by rw [← HG.out, rvGo_end hlt]; rfl, rfl⟩
    · go_wp2
      go_ret3
      exact ⟨by rw [← HG.out, show 5 - k = 0 by omega]; rfl, rfl⟩

set_option maxRecDepth 100000 in
theorem impl_ReadVar_any (s : ByteArray) (hs : s.size ≤ 4294967296) (i : Int) (w : World) : Calls Tryd.prog 9 #[.string s, .int .i64 i] w fun e w' => e = .returned (rvVal (rvOut s i)) ∧ w = w' := by
  by_cases h : 0 ≤ i ∧ i ≤ s.size
  · obtain ⟨a, rfl⟩ := Int.eq_ofNat_of_zero_le h.1
    rw [show rvOut s (a : Int) = rvGo s a 5 0 from if_pos h]
    exact impl_ReadVar_in s hs a (by omega) w
  · rw [show rvOut s i = none from if_neg h]
    rcases (by omega : i < 0 ∨ (0 ≤ i ∧ (s.size : Int) < i)) with h1 | ⟨h0, h1⟩
    all_goals
      clear h
      go_enter Tryd.func9, Tryd.ntmps9
      go_wp2
      go_ret3
      exact ⟨rfl, rfl⟩

end Go.Proofs.YtgdilhkdeeodhaaDoor
