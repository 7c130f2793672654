/- ReadVar: both functions return the same. No conditions. -/
import Derived.Test.YtdikkfhdogkniaaRead
import Derived.Test.YtdikkfhdogkniaaIn
import Derived.Deep.RegionHeld3
import Derived.Deep.QuietTactic
import Derived.BigQuiet
namespace Go.Proofs.Ytdikkfhdogkniaa
open Go.RowKit

theorem rv_step {s : ByteArray} {a k N U : Nat} (hN : N = vTo s a k) (hU : U = 128 ^ k) : N + byteAt s (a + k) % 128 * U = vTo s a (k + 1) := by rw [hN, hU, vTo]
theorem rv_prod {c U : Nat} (hU : U ≤ 268435456) : c % 128 * U ≤ 34091302912 := by
  have h1 : c % 128 * U ≤ 127 * U := Nat.mul_le_mul_right _ (by omega)
  omega
theorem pow_le {k U : Nat} (hU : U = 128 ^ k) (hk : k < 5) : U ≤ 268435456 := by
  rw [hU]
  exact Nat.pow_le_pow_right (n := 128) (by omega) (by omega : k ≤ 4)
theorem rv_lt {s : ByteArray} {a k N : Nat} (hN : N = vTo s a k) (hk : k ≤ 5) : N < 34359738368 := by
  have h := vTo_lt s a k
  have h2 : 128 ^ k ≤ 128 ^ 5 := Nat.pow_le_pow_right (by omega) hk
  have h3 : (128 : Nat) ^ 5 = 34359738368 := by decide
  omega

theorem rv_none {o : Option (Nat × Nat)} (h : o = none) : Ending.returned (.tuple #[.int .i64 0, .int .i64 0, .bool false]) = .returned (rvVal o) := by rw [h]; rfl
theorem rv_some {o : Option (Nat × Nat)} {n e : Nat} {x y : Int} (h : o = some (n, e)) (hx : x = n) (hy : y = e) : Ending.returned (.tuple #[.int .i64 x, .int .i64 y, .bool true]) = .returned (rvVal o) := by rw [h, hx, hy]; rfl

set_option maxHeartbeats 1600000 in
set_option maxRecDepth 100000 in
theorem impl_ReadVar_in (s : ByteArray) (hs : s.size ≤ 4294967296) (a : Nat) (ha : a ≤ s.size) (w : World) :
    Calls Try.prog 79 #[.string s, .int .i64 a] w fun e w' => e = .returned (rvVal (rvGo s a 5 0)) ∧ w = w' := by
  have d1 : decide (s.size < a) = false := by simp; omega
  have d2 : decide ((s.size : Int) < (a : Int)) = false := by simp; omega
  have d0 : decide ((a : Int) < 0) = false := by simp
  go_enter Try.func79, Try.ntmps79
  go_wp2
  go_loop [7, 8, 9] (fun n u i => ∃ k N U : Nat, k ≤ 5 ∧ a + k ≤ s.size ∧ i = .int .i64 k ∧ n = .int .i64 N ∧ u = .int .i64 U ∧ Hid (N = vTo s a k) ∧ Hid (U = 128 ^ k) ∧ Hid (rvGo s a (5 - k) k = rvGo s a 5 0)) (fun _ _ i => 5 - (intOf i).toNat)
  case atStart => exact ⟨0, 0, 1, by omega, ha, rfl, rfl, rfl, rfl, rfl, rfl⟩
  case round =>
    obtain ⟨k, N, U, hk, hak, rfl, rfl, rfl, HN, HU, HG⟩ := hrel
    have hN := rv_lt HN.out hk
    by_cases hk5 : k < 5
    · by_cases hlt : a + k < s.size
      · have hU := pow_le HU.out hk5
        obtain ⟨c, hc⟩ : ∃ c, s[a + k].toNat = c := ⟨_, rfl⟩
        have hb : byteAt s (a + k) = c := by rw [byteAt_eq s _ hlt, hc]
        have hc2 : c < 256 := by rw [← hb]; exact byteAt_lt s _
        obtain ⟨p, hp⟩ : ∃ p, p = c % 128 * U := ⟨_, rfl⟩
        have hp2 : p ≤ 34091302912 := by rw [hp]; exact rv_prod hU
        have hP : (c : Int) % 128 * (U : Int) = (p : Int) := by rw [hp]; simp
        have HS : Hid (N + p = vTo s a (k + 1)) := by
          have := rv_step HN.out HU.out
          rw [hb, ← hp] at this
          exact this
        have HB := Lib.hid hb
        clear hp hb HN
        obtain ⟨f, hf⟩ : ∃ f, 5 - k = f + 1 := ⟨4 - k, by omega⟩
        have HF := Lib.hid hf
        clear hf
        by_cases hbig : 128 ≤ c
        · go_wp2
          go_round
          case rel =>
            refine ⟨k + 1, N + p, U * 128, by omega, by omega, by go_num, by go_num, by go_num, HS.out, ?_, ?_⟩
            · show _ = _
              rw [HU.out, Nat.pow_succ]
            · show _ = _
              rw [← HG.out, HF.out, rvGo_on hlt (by rw [HB.out]; omega), show 5 - (k + 1) = f by have := HF.out; omega]
          case measure => simp [intOf]; omega
        · by_cases hz : c = 0 ∧ 0 < k
          · obtain ⟨hz0, hk0⟩ := hz
            have z1 : ((c : Int) == 0) = true := by rw [beq_iff_eq]; omega
            have z2 : c = 0 ∧ 0 < k := ⟨hz0, hk0⟩
            have Z := Lib.hid z2
            clear z2 hz0
            go_wp2
            all_goals
              go_ret3
              exact ⟨rv_none (by rw [← HG.out, HF.out]; exact rvGo_no hlt (by rw [HB.out]; omega) (by rw [HB.out]; exact fun h => h.2 Z.out)), rfl⟩
          · have Z := Lib.hid hz
            have hz2 : (c ≤ 0 ∧ k ≤ 0) ∨ 1 ≤ c := by omega
            clear hz
            by_cases hmax : N + p ≤ 1000000000
            · rcases hz2 with ⟨hz2, hz3⟩ | hz2
              all_goals
                go_wp2
                go_ret3
                exact ⟨rv_some (o := rvGo s a 5 0) (n := vTo s a (k + 1)) (e := a + k + 1) (by rw [← HG.out, HF.out]; exact rvGo_yes hlt (by rw [HB.out]; omega) (by rw [← HS.out]; exact hmax) (by rw [HB.out]; exact Z.out)) (by rw [← HS.out]; omega) (by omega), rfl⟩
            · rcases hz2 with ⟨hz2, hz3⟩ | hz2
              all_goals
                go_wp2
                go_ret3
                exact ⟨rv_none (by rw [← HG.out, HF.out]; exact rvGo_no hlt (by rw [HB.out]; omega) (by rw [← HS.out]; exact fun h => hmax h.1)), rfl⟩
      · go_wp2
        go_ret3
        exact ⟨by rw [← HG.out, rvGo_end hlt]; rfl, rfl⟩
    · go_wp2
      go_ret3
      exact ⟨by rw [← HG.out, show 5 - k = 0 by omega]; rfl, rfl⟩

set_option maxHeartbeats 1600000 in
set_option maxRecDepth 100000 in
theorem spec_ReadVar_in (s : ByteArray) (hs : s.size ≤ 4294967296) (a : Nat) (ha : a ≤ s.size) (w : World) :
    Calls Try.prog 78 #[.string s, .int .i64 a] w fun e w' => e = .returned (rvVal (rvGo s a 5 0)) ∧ Below w.heap.size w w' := by
  have hin : (decide ((0 : Int) ≤ (a : Int)) && decide ((a : Int) ≤ (s.size : Int))) = true := by simp; omega
  have HIN := Lib.hid hin
  clear hin
  go_enter Try.func78, Try.ntmps78
  go_wp2_with (go_at_call 45; refine (spec_l01In_any _ _ _ _).mono ?_; rw [HIN.out]; rintro e w1 ⟨rfl, rfl⟩)
  clear HIN
  go_loopw [7, 8, 9] (fun n u i wr => ∃ k N U j : Nat, k ≤ 5 ∧ j ≤ s.size ∧ Hid (j = a + k) ∧ j ≤ a + k ∧ a + k ≤ j ∧ i = .int .i64 j ∧ n = .int .i64 N ∧ u = .int .i64 U ∧ Hid (N = vTo s a k) ∧ Hid (U = 128 ^ k) ∧ Hid (rvGo s a (5 - k) k = rvGo s a 5 0) ∧ Hid (∀ m, m < k → 128 ≤ byteAt s (a + m)) ∧ wr = w) (fun _ _ i _ => a + 5 - (intOf i).toNat)
  case atStart => exact ⟨0, 0, 1, a, by omega, ha, rfl, by omega, by omega, rfl, rfl, rfl, rfl, rfl, rfl, fun m hm => absurd hm (by omega), rfl⟩
  case round =>
    obtain ⟨k, N, U, j, hk, hjs, HJ, hj1, hj2, rfl, rfl, rfl, HN, HU, HG, HA, hwr⟩ := hrel
    subst hwr
    have hN := rv_lt HN.out hk
    by_cases hlt : j < s.size
    · by_cases hk5 : k < 5
      · have hU := pow_le HU.out hk5
        obtain ⟨c, hc⟩ : ∃ c, s[j].toNat = c := ⟨_, rfl⟩
        have hb : byteAt s (a + k) = c := by rw [← HJ.out, byteAt_eq s _ hlt, hc]
        have hc2 : c < 256 := by rw [← hb]; exact byteAt_lt s _
        obtain ⟨p, hp⟩ : ∃ p, p = c % 128 * U := ⟨_, rfl⟩
        have hp2 : p ≤ 34091302912 := by rw [hp]; exact rv_prod hU
        have hP : (c : Int) % 128 * (U : Int) = (p : Int) := by rw [hp]; simp
        have HS : Hid (N + p = vTo s a (k + 1)) := by
          have := rv_step HN.out HU.out
          rw [hb, ← hp] at this
          exact this
        have HB := Lib.hid hb
        clear hp hb HN
        obtain ⟨f, hf⟩ : ∃ f, 5 - k = f + 1 := ⟨4 - k, by omega⟩
        have HF := Lib.hid hf
        clear hf
        have hlt' : a + k < s.size := by omega
        by_cases hbig : 128 ≤ c
        · go_wp2
          go_roundw
          case rel =>
            refine ⟨k + 1, N + p, U * 128, j + 1, by omega, by omega, ?_, by omega, by omega, by go_num, by go_num, by go_num, HS.out, ?_, ?_, ?_, ?_⟩
            · show _ = _
              rw [HJ.out]; omega
            · show _ = _
              rw [HU.out, Nat.pow_succ]
            · show _ = _
              rw [← HG.out, HF.out, rvGo_on hlt' (by rw [HB.out]; omega), show 5 - (k + 1) = f by have := HF.out; omega]
            · intro m hm
              by_cases he : m = k
              · subst he; rw [HB.out]; exact hbig
              · exact HA.out m (by omega)
            · first | exact trivial | rfl
          case measure => simp [intOf]; omega
        · have hcan := canon_beq s a k (by omega) HA.out (by rw [HB.out]; omega)
          rw [← HS.out, HB.out, ← HJ.out] at hcan
          obtain ⟨b, hbb⟩ : ∃ b, ((strOfNums (vt (N + p))).toList == (s.extract a (j + 1)).toList) = b := ⟨_, rfl⟩
          rw [hbb] at hcan
          have HC := Lib.hid hcan
          clear hcan
          by_cases hmax : N + p ≤ 1000000000
          · have m1 : decide (1000000000 < (N : Int) + (p : Int)) = false := by simp; omega
            have m2 : (N : Int) + (p : Int) ≤ 1000000000 := by omega
            have C := Lib.hid (fun w => spec_l01Var_any (N + p) hmax w)
            have x1 : (0 : Int) ≤ (a : Int) := by omega
            have x2 : (a : Int) ≤ (j : Int) + 1 := by omega
            have x3 : (j : Int) + 1 ≤ (s.size : Int) := by omega
            have x4 : IntKind.i64.wrap ((j : Int) + 1) = (j : Int) + 1 := IntWalk.i64_in _ (by omega)
            cases b
            all_goals
              go_wp2_with fail
              go_region_held3 (fun _ => True) (exact trivial) ((go_at_call 51; refine (C.out _).mono ?_; rintro e w2 ⟨rfl, hb⟩))
              go_wp2
              go_ret3
            · exact ⟨rv_none (by rw [← HG.out, HF.out]; exact rvGo_no hlt' (by rw [HB.out]; omega) (by rw [HB.out]; exact fun h => by have := HC.out.2 h.2; cases this)), ((Below.refl wr.heap.size wr).drew).trans hb⟩
            · exact ⟨rv_some (o := rvGo s a 5 0) (n := vTo s a (k + 1)) (e := a + k + 1) (by rw [← HG.out, HF.out]; exact rvGo_yes hlt' (by rw [HB.out]; omega) (by rw [← HS.out]; exact hmax) (by rw [HB.out]; first | exact HC.out.1 rfl | exact HC.out.1 trivial)) (by rw [← HS.out]; omega) (by rw [← HJ.out]; omega), ((Below.refl wr.heap.size wr).drew).trans hb⟩
          · have m1 : decide (1000000000 < (N : Int) + (p : Int)) = true := by simp; omega
            have m2 : 1000000000 < (N : Int) + (p : Int) := by omega
            go_wp2_with fail
            go_quiet (fail)
            go_wp2
            go_ret3
            exact ⟨rv_none (by rw [← HG.out, HF.out]; exact rvGo_no hlt' (by rw [HB.out]; omega) (by rw [← HS.out]; exact fun h => hmax h.1)), below_drewN (Below.refl wr.heap.size wr) _⟩
      · go_wp2
        go_ret3
        exact ⟨by rw [← HG.out, show 5 - k = 0 by omega]; rfl, Below.refl _ _⟩
    · go_wp2
      go_ret3
      exact ⟨by rw [← HG.out, rvGo_end (by omega)]; rfl, Below.refl _ _⟩

set_option maxRecDepth 100000 in
theorem impl_ReadVar_any (s : ByteArray) (hs : s.size ≤ 4294967296) (i : Int) (w : World) : Calls Try.prog 79 #[.string s, .int .i64 i] w fun e w' => e = .returned (rvVal (rvOut s i)) ∧ w = w' := by
  by_cases h : 0 ≤ i ∧ i ≤ s.size
  · obtain ⟨a, rfl⟩ := Int.eq_ofNat_of_zero_le h.1
    rw [show rvOut s (a : Int) = rvGo s a 5 0 from if_pos h]
    exact impl_ReadVar_in s hs a (by omega) w
  · rw [show rvOut s i = none from if_neg h]
    rcases (by omega : i < 0 ∨ (0 ≤ i ∧ (s.size : Int) < i)) with h1 | ⟨h0, h1⟩
    all_goals
      clear h
      go_enter Try.func79, Try.ntmps79
      go_wp2
      go_ret3
      exact ⟨rfl, rfl⟩

set_option maxRecDepth 100000 in
theorem spec_ReadVar_any (s : ByteArray) (hs : s.size ≤ 4294967296) (i : Int) (w : World) : Calls Try.prog 78 #[.string s, .int .i64 i] w fun e w' => e = .returned (rvVal (rvOut s i)) ∧ Below w.heap.size w w' := by
  by_cases h : 0 ≤ i ∧ i ≤ s.size
  · obtain ⟨a, rfl⟩ := Int.eq_ofNat_of_zero_le h.1
    rw [show rvOut s (a : Int) = rvGo s a 5 0 from if_pos h]
    exact spec_ReadVar_in s hs a (by omega) w
  · rw [show rvOut s i = none from if_neg h]
    have hin : (decide ((0 : Int) ≤ i) && decide (i ≤ (s.size : Int))) = false := by simp; omega
    have HIN := Lib.hid hin
    clear hin h
    go_enter Try.func78, Try.ntmps78
    go_wp2_with (go_at_call 45; refine (spec_l01In_any _ _ _ _).mono ?_; rw [HIN.out]; rintro e w1 ⟨rfl, rfl⟩)
    go_ret3
    exact ⟨rfl, Below.refl _ _⟩
end Go.Proofs.Ytdikkfhdogkniaa
