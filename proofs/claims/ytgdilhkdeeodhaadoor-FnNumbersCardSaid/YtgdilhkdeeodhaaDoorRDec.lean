/- ReadDecimal: both functions. Conditions: the text's length; the table reads as it was laid. -/
import Derived.Test.YtgdilhkdeeodhaaDoorDec
import Derived.Test.YtgdilhkdeeodhaaDoorRead
import Derived.Test.YtgdilhkdeeodhaaDoorPP
namespace Go.Proofs.YtgdilhkdeeodhaaDoor
open Go.RowKit

theorem toList_yes {a b : ByteArray} (h : a = b) : (a.toList == b.toList) = true := by rw [h]; simp
theorem toList_no {a b : ByteArray} (h : a ≠ b) : (a.toList == b.toList) = false := by
  rw [beq_eq_false_iff_ne]
  intro e
  rw [ByteArray.toList_eq, ByteArray.toList_eq] at e
  exact h (Go.WideShapes.bytes_inj e)
/-- The number that the first k figures say. -/
def dvTo (s : ByteArray) : Nat → Nat
  | 0 => 0
  | k + 1 => dvTo s k * 10 + (byteAt s k - 48)
def dgAll (s : ByteArray) (k : Nat) : Prop := ∀ j, j < k → 48 ≤ byteAt s j ∧ byteAt s j ≤ 57
theorem dvTo_lt {s : ByteArray} : ∀ {k : Nat}, dgAll s k → dvTo s k < 10 ^ k
  | 0, _ => by simp [dvTo]
  | k + 1, h => by
    have h1 := dvTo_lt (s := s) (k := k) fun j hj => h j (by omega)
    have h2 := h k (by omega)
    rw [dvTo, Nat.pow_succ]
    omega
theorem dvTo_small {s : ByteArray} {k : Nat} (h : dgAll s k) (hk : k ≤ 10) : dvTo s k < 10000000000 :=
  Nat.lt_of_lt_of_le (dvTo_lt h) (Nat.pow_le_pow_right (n := 10) (by omega) hk)
/-- Right numerals. -/
def rdOk (s : ByteArray) : Prop := s.size ≤ 10 ∧ dgAll s s.size ∧ dvTo s s.size ≤ 1000000000 ∧ strOfNums (decI (dvTo s s.size)) = s
noncomputable def rdN (s : ByteArray) : Int := if PP (rdOk s) = true then dvTo s s.size else 0
noncomputable def rdVal (s : ByteArray) : Value := .tuple #[.int .i64 (rdN s), .bool (PP (rdOk s))]
theorem rdVal_no {s : ByteArray} (h : ¬ rdOk s) : rdVal s = .tuple #[.int .i64 0, .bool false] := by unfold rdVal rdN; rw [PP_no h]; rfl
theorem rdVal_yes {s : ByteArray} (h : rdOk s) : rdVal s = .tuple #[.int .i64 (dvTo s s.size), .bool true] := by unfold rdVal rdN; rw [PP_yes h]; rfl
theorem ret_no {s : ByteArray} (h : ¬ rdOk s) : Ending.returned (.tuple #[.int .i64 0, .bool false]) = .returned (rdVal s) := by rw [rdVal_no h]
theorem ret_yes {s : ByteArray} {n : Int} (h : rdOk s) (hn : n = dvTo s s.size) : Ending.returned (.tuple #[.int .i64 n, .bool true]) = .returned (rdVal s) := by rw [rdVal_yes h, hn]
theorem rdOk_ne {s : ByteArray} (h : s.size = 0) : ¬ rdOk s := fun hh => by
  have h1 := hh.2.2.2
  rw [h] at h1
  have h2 := congrArg ByteArray.size h1
  rw [strOfNums_size, h] at h2
  exact decI_ne _ (List.eq_nil_of_length_eq_zero h2)

set_option maxRecDepth 100000 in
set_option maxHeartbeats 1600000 in
theorem impl_ReadDecimal_any (s : ByteArray) (hs : s.size ≤ maxLen) (w : World) (ht : TabD w) :
    Calls Tryd.prog 10 #[.string s] w fun e w' => e = .returned (rdVal s) ∧ Below w.heap.size w w' := by
  unfold maxLen at hs
  have HT := Lib.hid ht
  clear ht
  by_cases h0 : s.size = 0
  · have e0 : ((s.size : Int) == 0) = true := by rw [beq_iff_eq]; omega
    have NO := Lib.hid (rdOk_ne h0)
    have h00 : (s.size : Int) ≤ 0 := by omega
    clear h0
    go_enter Tryd.func10, Tryd.ntmps10
    go_wp2
    go_ret2
    exact ⟨ret_no NO.out, Below.refl _ _⟩
  have e0 : ((s.size : Int) == 0) = false := by rw [beq_eq_false_iff_ne]; omega
  have e1 : 0 < s.size := by omega
  clear h0
  by_cases h10 : s.size ≤ 10
  · have h10' : (s.size : Int) ≤ 10 := by omega
    go_enter Tryd.func10, Tryd.ntmps10
    go_wp2_with fail
    go_loop [4, 5] (fun n i => ∃ (k N : Nat), k ≤ s.size ∧ i = .int .i64 k ∧ n = .int .i64 N ∧ N < 10000000000 ∧ Hid (N = dvTo s k) ∧ Hid (dgAll s k)) (fun _ i => s.size - (intOf i).toNat)
    case atStart => exact ⟨0, 0, by omega, rfl, rfl, by omega, Lib.hid rfl, Lib.hid (fun j hj => absurd hj (by omega))⟩
    case round =>
      obtain ⟨k, N, hk, rfl, rfl, hN, HN, HD⟩ := hrel
      by_cases hlt : k < s.size
      · obtain ⟨c, hc⟩ : ∃ c, s[k].toNat = c := ⟨_, rfl⟩
        have hb : byteAt s k = c := by rw [byteAt_eq s _ hlt, hc]
        have hc2 : c < 256 := by rw [← hb]; exact byteAt_lt s _
        have HB := Lib.hid hb
        clear hb
        by_cases hd : 48 ≤ c ∧ c ≤ 57
        · obtain ⟨hd1, hd2⟩ := hd
          have hall : dgAll s (k + 1) := fun j hj => by
            by_cases e : j = k
            · subst e; rw [HB.out]; exact ⟨hd1, hd2⟩
            · exact HD.out j (by omega)
          have hsm := dvTo_small hall (by omega)
          have hv : N * 10 + (c - 48) = dvTo s (k + 1) := by rw [dvTo, ← HN.out, HB.out]
          rw [← hv] at hsm
          have HV := Lib.hid hv
          have HA := Lib.hid hall
          obtain ⟨N2, hN2⟩ : ∃ N2, N * 10 + (c - 48) = N2 := ⟨_, rfl⟩
          have e2 : (N : Int) * 10 + ((c : Int) - 48) = N2 := by omega
          rw [hN2] at hsm HV
          have HE := Lib.hid e2
          clear hall hv hN2 e2
          go_wp2
          go_round
          case rel => exact ⟨k + 1, N2, by omega, by go_num, by rw [HE.out], hsm, HV, HA⟩
          case measure => simp [intOf]; omega
        · have hno : ¬ rdOk s := fun h => by have := h.2.1 k hlt; rw [HB.out] at this; exact hd this
          have NO := Lib.hid hno
          have hor : c < 48 ∨ (48 ≤ c ∧ 57 < c) := by omega
          clear hno hd
          rcases hor with h | ⟨h, h'⟩
          all_goals
            go_wp2
            go_ret2
            exact ⟨ret_no NO.out, Below.refl _ _⟩
      · obtain rfl : k = s.size := by omega
        by_cases hmax : N ≤ 1000000000
        · have C := Lib.hid (impl_Decimal_any (N : Int) (by omega) (by omega) w HT.out)
          obtain ⟨t, htt⟩ : ∃ t, strOfNums (decI (N : Int)) = t := ⟨_, rfl⟩
          rw [htt] at C
          have HTT := Lib.hid htt
          clear htt
          by_cases heq : t = s
          · have q1 := toList_yes heq
            have HQ := Lib.hid heq
            clear heq
            go_wp2_with ((go_at_call 11; first | (refine (C.out).mono ?_; rintro e w1 ⟨rfl, kb⟩)))
            go_ret2
            exact ⟨ret_yes ⟨h10, HD.out, by rw [← HN.out]; exact hmax, by rw [← HN.out, HTT.out]; exact HQ.out⟩ (by rw [← HN.out]), kb⟩
          · have q1 := toList_no heq
            have HQ := Lib.hid heq
            clear heq
            go_wp2_with ((go_at_call 11; first | (refine (C.out).mono ?_; rintro e w1 ⟨rfl, kb⟩)))
            go_ret2
            exact ⟨ret_no fun h => HQ.out (by rw [← HTT.out, HN.out]; exact h.2.2.2), kb⟩
        · have HM := Lib.hid hmax
          have hm' : 1000000000 < N := by omega
          clear hmax
          go_wp2
          go_ret2
          exact ⟨ret_no fun h => HM.out (by rw [HN.out]; exact h.2.2.1), Below.refl _ _⟩
  · have h10' : (10 : Int) < (s.size : Int) := by omega
    have NO := Lib.hid (show ¬ rdOk s from fun h => h10 h.1)
    clear h10
    go_enter Tryd.func10, Tryd.ntmps10
    go_wp2
    go_ret2
    exact ⟨ret_no NO.out, Below.refl _ _⟩
set_option maxRecDepth 100000 in
set_option maxHeartbeats 1600000 in
theorem spec_ReadDecimal_any (s : ByteArray) (hs : s.size ≤ maxLen) (w : World) :
    Calls Tryd.prog 18 #[.string s] w fun e w' => e = .returned (rdVal s) ∧ Below w.heap.size w w' := by
  unfold maxLen at hs
  by_cases h10 : s.size ≤ 10
  · have h10' : (s.size : Int) ≤ 10 := by omega
    go_enter Tryd.func18, Tryd.ntmps18
    go_wp2_with fail
    go_loop [4, 5] (fun n i => ∃ (k N : Nat), k ≤ s.size ∧ i = .int .i64 k ∧ n = .int .i64 N ∧ N < 10000000000 ∧ Hid (N = dvTo s k) ∧ Hid (dgAll s k)) (fun _ i => s.size - (intOf i).toNat)
    case atStart => exact ⟨0, 0, by omega, rfl, rfl, by omega, Lib.hid rfl, Lib.hid (fun j hj => absurd hj (by omega))⟩
    case round =>
      obtain ⟨k, N, hk, rfl, rfl, hN, HN, HD⟩ := hrel
      by_cases hlt : k < s.size
      · obtain ⟨c, hc⟩ : ∃ c, s[k].toNat = c := ⟨_, rfl⟩
        have hb : byteAt s k = c := by rw [byteAt_eq s _ hlt, hc]
        have hc2 : c < 256 := by rw [← hb]; exact byteAt_lt s _
        have HB := Lib.hid hb
        clear hb
        by_cases hd : 48 ≤ c ∧ c ≤ 57
        · obtain ⟨hd1, hd2⟩ := hd
          have hall : dgAll s (k + 1) := fun j hj => by
            by_cases e : j = k
            · subst e; rw [HB.out]; exact ⟨hd1, hd2⟩
            · exact HD.out j (by omega)
          have hsm := dvTo_small hall (by omega)
          have hv : N * 10 + (c - 48) = dvTo s (k + 1) := by rw [dvTo, ← HN.out, HB.out]
          rw [← hv] at hsm
          have HV := Lib.hid hv
          have HA := Lib.hid hall
          obtain ⟨N2, hN2⟩ : ∃ N2, N * 10 + (c - 48) = N2 := ⟨_, rfl⟩
          have e2 : 10 * (N : Int) + (c : Int) - 48 = N2 := by omega
          rw [hN2] at hsm HV
          have HE := Lib.hid e2
          clear hall hv hN2 e2
          go_wp2
          go_round
          case rel => exact ⟨k + 1, N2, by omega, by go_num, by rw [HE.out], hsm, HV, HA⟩
          case measure => simp [intOf]; omega
        · have hno : ¬ rdOk s := fun h => by have := h.2.1 k hlt; rw [HB.out] at this; exact hd this
          have NO := Lib.hid hno
          have hor : c < 48 ∨ (48 ≤ c ∧ 57 < c) := by omega
          clear hno hd
          rcases hor with h | ⟨h, h'⟩
          all_goals
            go_wp2
            go_ret2
            exact ⟨ret_no NO.out, Below.refl _ _⟩
      · obtain rfl : k = s.size := by omega
        by_cases hmax : N ≤ 1000000000
        · have C := Lib.hid (spec_Decimal_any (N : Int) (by omega) (by omega) w)
          obtain ⟨t, htt⟩ : ∃ t, strOfNums (decI (N : Int)) = t := ⟨_, rfl⟩
          rw [htt] at C
          have HTT := Lib.hid htt
          clear htt
          by_cases heq : t = s
          · have q1 := toList_yes heq
            have HQ := Lib.hid heq
            clear heq
            go_wp2_with ((go_at_call 17; first | (refine (C.out).mono ?_; rintro e w1 ⟨rfl, kb⟩)))
            go_ret2
            exact ⟨ret_yes ⟨h10, HD.out, by rw [← HN.out]; exact hmax, by rw [← HN.out, HTT.out]; exact HQ.out⟩ (by rw [← HN.out]), kb⟩
          · have q1 := toList_no heq
            have HQ := Lib.hid heq
            clear heq
            go_wp2_with ((go_at_call 17; first | (refine (C.out).mono ?_; rintro e w1 ⟨rfl, kb⟩)))
            go_ret2
            exact ⟨ret_no fun h => HQ.out (by rw [← HTT.out, HN.out]; exact h.2.2.2), kb⟩
        · have HM := Lib.hid hmax
          have hm' : 1000000000 < N := by omega
          clear hmax
          go_wp2
          go_ret2
          exact ⟨ret_no fun h => HM.out (by rw [HN.out]; exact h.2.2.1), Below.refl _ _⟩
  · have h10' : (10 : Int) < (s.size : Int) := by omega
    have NO := Lib.hid (show ¬ rdOk s from fun h => h10 h.1)
    clear h10
    go_enter Tryd.func18, Tryd.ntmps18
    go_wp2
    go_ret2
    exact ⟨ret_no NO.out, Below.refl _ _⟩
end Go.Proofs.YtgdilhkdeeodhaaDoor
