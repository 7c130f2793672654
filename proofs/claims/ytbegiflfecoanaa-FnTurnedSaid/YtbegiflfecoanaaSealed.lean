/- Sealed, Unsealed: both functions of each return the same. No conditions. -/
import Derived.Test.YtbegiflfecoanaaFour
import Derived.Deep.RegionHeld3
import Derived.Lib.Strings
import Derived.Deep.QuietTactic
import Derived.BigQuiet
namespace Go.Proofs.Ytbegiflfecoanaa
open Go.RowKit

def sealedOut (s : ByteArray) : Value := if s.size ≤ 20000 then .tuple #[.string (s ++ strOfNums (four (crc s))), .bool true] else .tuple #[.string ⟨#[]⟩, .bool false]
theorem sealedOut_is (s : ByteArray) : ∃ t b, sealedOut s = .tuple #[.string t, .bool b] := by
  unfold sealedOut
  split
  · exact ⟨_, _, rfl⟩
  · exact ⟨_, _, rfl⟩
theorem four_size (x : Nat) : (strOfNums (four x)).size ≤ 4 := by rw [strOfNums_size]; exact Nat.le_refl 4

theorem spec_Sealed_any (s : ByteArray) (hs : s.size ≤ maxLen) (w : World) : Calls Try.prog 20 #[.string s] w fun e w' => e = .returned (sealedOut s) ∧ Below w.heap.size w w' := by
  have C := Lib.hid (fun w => spec_SumOf_any s hs w)
  unfold maxLen at hs
  by_cases h : s.size ≤ 20000
  · rw [show sealedOut s = .tuple #[.string (s ++ strOfNums (four (crc s))), .bool true] from if_pos h]
    have h4 := four_size (crc s)
    go_enter Try.func20, Try.ntmps20
    go_wp2_with (first
      | (go_at_call 14; refine (C.out _).mono ?_; rintro e w1 ⟨rfl, rfl⟩)
      | (go_at_call 46; refine (spec_l02Four_any (crc s) (crc_lt s) _).mono ?_; rintro e w2 ⟨rfl, hb⟩))
    go_ret2
    exact ⟨rfl, hb⟩
  · rw [show sealedOut s = .tuple #[.string ⟨#[]⟩, .bool false] from if_neg h]
    go_enter Try.func20, Try.ntmps20
    go_wp2
    go_ret2
    exact ⟨rfl, Below.refl _ _⟩

theorem impl_Sealed_any (s : ByteArray) (hs : s.size ≤ maxLen) (w : World) : Calls Try.prog 21 #[.string s] w fun e w' => e = .returned (sealedOut s) ∧ Below w.heap.size w w' := by
  have C := Lib.hid (fun w => impl_sumText_any s hs w)
  unfold maxLen at hs
  by_cases h : s.size ≤ 20000
  · rw [show sealedOut s = .tuple #[.string (s ++ strOfNums (four (crc s))), .bool true] from if_pos h]
    have h4 := four_size (crc s)
    go_enter Try.func21, Try.ntmps21
    go_wp2_with (go_at_call 47; refine (C.out _).mono ?_; rintro e w1 ⟨rfl, hb⟩)
    go_ret2
    exact ⟨rfl, hb⟩
  · rw [show sealedOut s = .tuple #[.string ⟨#[]⟩, .bool false] from if_neg h]
    go_enter Try.func21, Try.ntmps21
    go_wp2
    go_ret2
    exact ⟨rfl, Below.refl _ _⟩

/-- Does the text end in its own sum? -/
def sealOk (s : ByteArray) : Bool := (s.extract (s.size - 4) s.size).toList == (strOfNums (four (crc (s.extract 0 (s.size - 4))))).toList
def unsealedOut (s : ByteArray) : Value := if 4 ≤ s.size ∧ s.size ≤ 20004 ∧ sealOk s = true then .tuple #[.string (s.extract 0 (s.size - 4)), .bool true] else .tuple #[.string ⟨#[]⟩, .bool false]
theorem unsealedOut_is (s : ByteArray) : ∃ t b, unsealedOut s = .tuple #[.string t, .bool b] := by
  unfold unsealedOut
  split
  · exact ⟨_, _, rfl⟩
  · exact ⟨_, _, rfl⟩

theorem extract_small (s : ByteArray) (n : Nat) (h : s.size ≤ maxLen) : (s.extract 0 n).size ≤ maxLen := by
  have : (s.extract 0 n).size = min n s.size := by simp
  omega

set_option maxHeartbeats 800000 in
theorem spec_Unsealed_any (s : ByteArray) (hs : s.size ≤ maxLen) (w : World) : Calls Try.prog 22 #[.string s] w fun e w' => e = .returned (unsealedOut s) ∧ Below w.heap.size w w' := by
  by_cases h : 4 ≤ s.size ∧ s.size ≤ 20004
  · obtain ⟨h1, h2⟩ := h
    obtain ⟨n, hn⟩ : ∃ n, n = s.size - 4 := ⟨_, rfl⟩
    have C := Lib.hid (fun w => spec_SumOf_any (s.extract 0 n) (extract_small s n hs) w)
    have D := Lib.hid (fun w => spec_l02Four_any (crc (s.extract 0 n)) (crc_lt _) w)
    obtain ⟨b, hb0⟩ : ∃ b, ((s.extract n s.size).toList == (strOfNums (four (crc (s.extract 0 n)))).toList) = b := ⟨_, rfl⟩
    have hout : Hid (unsealedOut s = if b = true then .tuple #[.string (s.extract 0 n), .bool true] else .tuple #[.string ⟨#[]⟩, .bool false]) := by
      show _ = _
      unfold unsealedOut sealOk
      rw [← hn, hb0]
      simp [h1, h2]
    have e1 : (s.size : Int) - 4 = (n : Int) := by omega
    have e0 : (0 : Int) ≤ (n : Int) := by omega
    have e2 : (n : Int) ≤ 20000 := by omega
    have e3 : n ≤ s.size := by omega
    have e4 : decide ((20000 : Int) < (n : Int)) = false := by simp; omega
    have e5 : (n : Int) ≤ (s.size : Int) := by omega
    clear hn h1 h2 hs
    cases b
    all_goals
      go_enter Try.func22, Try.ntmps22
      go_wp2_with fail
      go_region_held3 (fun _ => True) (exact trivial) (first
        | (go_at_call 14; refine (C.out _).mono ?_; rintro e w1 ⟨rfl, rfl⟩)
        | (go_at_call 46; refine (D.out _).mono ?_; rintro e w2 ⟨rfl, hb⟩))
      go_wp2
      go_ret2
      exact ⟨by rw [hout.out]; rfl, ((Below.refl w.heap.size w).drew).trans hb⟩
  · have hv : unsealedOut s = .tuple #[.string ⟨#[]⟩, .bool false] := if_neg fun h' => h ⟨h'.1, h'.2.1⟩
    rw [hv]
    clear hv
    unfold maxLen at hs
    rcases (by omega : s.size < 4 ∨ 20004 < s.size) with h1 | h1
    · have d1 : decide ((s.size : Int) - 4 < 0) = true := by simp; omega
      have d2 : (s.size : Int) - 4 < 0 := by omega
      clear h h1
      go_enter Try.func22, Try.ntmps22
      go_wp2_with fail
      go_quiet (fail)
      go_wp2
      go_ret2
      exact ⟨rfl, below_drewN (Below.refl w.heap.size w) _⟩
    · have d1 : decide ((s.size : Int) - 4 < 0) = false := by simp; omega
      have d3 : decide (20000 < (s.size : Int) - 4) = true := by simp; omega
      clear h h1
      go_enter Try.func22, Try.ntmps22
      go_wp2_with fail
      go_quiet (fail)
      go_wp2
      go_ret2
      exact ⟨rfl, below_drewN (Below.refl w.heap.size w) _⟩

set_option maxHeartbeats 800000 in
theorem impl_Unsealed_any (s : ByteArray) (hs : s.size ≤ maxLen) (w : World) : Calls Try.prog 23 #[.string s] w fun e w' => e = .returned (unsealedOut s) ∧ Below w.heap.size w w' := by
  by_cases h : 4 ≤ s.size ∧ s.size ≤ 20004
  · obtain ⟨h1, h2⟩ := h
    obtain ⟨n, hn⟩ : ∃ n, n = s.size - 4 := ⟨_, rfl⟩
    have C := Lib.hid (fun w => impl_sumText_any (s.extract 0 n) (extract_small s n hs) w)
    obtain ⟨b, hb0⟩ : ∃ b, ((strOfNums (four (crc (s.extract 0 n)))).toList == (s.extract n s.size).toList) = b := ⟨_, rfl⟩
    have hout : Hid (unsealedOut s = if b = true then .tuple #[.string (s.extract 0 n), .bool true] else .tuple #[.string ⟨#[]⟩, .bool false]) := by
      show _ = _
      unfold unsealedOut sealOk
      rw [← hn, Bool.beq_comm, hb0]
      simp [h1, h2]
    have e1 : (s.size : Int) - 4 = (n : Int) := by omega
    have e0 : (0 : Int) ≤ (n : Int) := by omega
    have e2 : (n : Int) ≤ 20000 := by omega
    have e3 : n ≤ s.size := by omega
    have e4 : decide ((20000 : Int) < (n : Int)) = false := by simp; omega
    have e5 : (n : Int) ≤ (s.size : Int) := by omega
    clear hn h1 h2 hs
    cases b
    all_goals
      go_enter Try.func23, Try.ntmps23
      go_wp2_with fail
      go_region_held3 (fun _ => True) (exact trivial) ((go_at_call 47; refine (C.out _).mono ?_; rintro e w2 ⟨rfl, hb⟩))
      go_wp2
      go_ret2
      exact ⟨by rw [hout.out]; rfl, ((Below.refl w.heap.size w).drew).trans hb⟩
  · have hv : unsealedOut s = .tuple #[.string ⟨#[]⟩, .bool false] := if_neg fun h' => h ⟨h'.1, h'.2.1⟩
    rw [hv]
    clear hv
    unfold maxLen at hs
    rcases (by omega : s.size < 4 ∨ 20004 < s.size) with h1 | h1
    · have d1 : decide ((s.size : Int) - 4 < 0) = true := by simp; omega
      have d2 : (s.size : Int) - 4 < 0 := by omega
      clear h h1
      go_enter Try.func23, Try.ntmps23
      go_wp2_with fail
      go_quiet (fail)
      go_wp2
      go_ret2
      exact ⟨rfl, below_drewN (Below.refl w.heap.size w) _⟩
    · have d1 : decide ((s.size : Int) - 4 < 0) = false := by simp; omega
      have d3 : decide (20000 < (s.size : Int) - 4) = true := by simp; omega
      clear h h1
      go_enter Try.func23, Try.ntmps23
      go_wp2_with fail
      go_quiet (fail)
      go_wp2
      go_ret2
      exact ⟨rfl, below_drewN (Below.refl w.heap.size w) _⟩

end Go.Proofs.Ytbegiflfecoanaa
