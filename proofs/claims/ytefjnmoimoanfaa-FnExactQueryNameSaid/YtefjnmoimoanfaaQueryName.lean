/- QueryName: program and reference return the same. No conditions. -/
import Derived.Test.YtefjnmoimoanfaaKit
import Derived.Test.YtefjnmoimoanfaaIn
namespace Go.Proofs.Ytefjnmoimoanfaa
open Go.RowKit

def AllLow (s : ByteArray) : Prop := ∀ j (h : j < s.size), 97 ≤ (s[j].toNat : Int) ∧ (s[j].toNat : Int) ≤ 122
def Qn (s : ByteArray) : Prop := AllLow s ∧ 1 ≤ s.size ∧ s.size ≤ 4 ∧ (s.toList == [101, 97, 99, 104]) = false
noncomputable def PB (p : Prop) : Bool := @decide p (Classical.propDecidable p)
theorem PB_true {p : Prop} (h : p) : PB p = true := by simp [PB, h]
theorem PB_false {p : Prop} (h : ¬ p) : PB p = false := by simp [PB, h]
theorem ret_bool {a b : Bool} (h : a = b) : Ending.returned (.bool a) = .returned (.bool b) := by rw [h]

theorem spec_QueryName_any (s : ByteArray) (hs : s.size ≤ maxLen) (w : World) : Calls Try.prog 9 #[.string s] w fun e w' => e = .returned (.bool (PB (Qn s))) ∧ w = w' := by
  unfold maxLen at hs
  have hq : ∃ b, (s.toList == [101, 97, 99, 104]) = b := ⟨_, rfl⟩
  obtain ⟨b, hb⟩ := hq
  go_enter Try.func9, Try.ntmps9
  go_wp2
  go_loop [3] (fun i => ∃ k : Nat, k ≤ s.size ∧ i = .int .i64 k ∧ ∀ j (h : j < s.size), j < k → 97 ≤ (s[j].toNat : Int) ∧ (s[j].toNat : Int) ≤ 122) (fun i => s.size - (intOf i).toNat)
  case atStart => exact ⟨0, Nat.zero_le _, rfl, fun j _ h => absurd h (by omega)⟩
  case round =>
    obtain ⟨k, hk, rfl, hall0⟩ := hrel
    have hall := Lib.hid hall0
    clear hall0
    by_cases hlt : k < s.size
    · by_cases h1 : (s[k].toNat : Int) < 97
      · go_wp2
        go_ret
        exact ⟨ret_bool (PB_false fun h => by have := h.1 k hlt; omega).symm, rfl⟩
      · by_cases h2 : 122 < (s[k].toNat : Int)
        · go_wp2
          go_ret
          exact ⟨ret_bool (PB_false fun h => by have := h.1 k hlt; omega).symm, rfl⟩
        · go_wp2
          go_round
          case rel =>
            refine ⟨k + 1, by omega, by go_num, fun j hj hjk => ?_⟩
            by_cases e : j = k
            · subst e; omega
            · exact hall.out j hj (by omega)
          case measure => simp [intOf]; omega
    · have hA : Hid (AllLow s) := fun j hj => hall.out j hj (by omega)
      by_cases h1 : 1 ≤ s.size ∧ s.size ≤ 4
      · have hd : (decide ((1 : Int) ≤ (s.size : Int)) && decide ((s.size : Int) ≤ 4)) = true := by simp; omega
        go_wp2_with (go_at_call 19; refine (spec_l01In_any _ _ _ _).mono ?_; rw [hd]; rintro e w1 ⟨rfl, rfl⟩)
        go_ret
        refine ⟨ret_bool ?_, rfl⟩
        cases b
        · exact (PB_true ⟨hA, h1.1, h1.2, hb⟩).symm
        · exact (PB_false fun h => by rw [h.2.2.2] at hb; cases hb).symm
      · have hd : (decide ((1 : Int) ≤ (s.size : Int)) && decide ((s.size : Int) ≤ 4)) = false := by simp; omega
        go_wp2_with (go_at_call 19; refine (spec_l01In_any _ _ _ _).mono ?_; rw [hd]; rintro e w1 ⟨rfl, rfl⟩)
        go_ret
        exact ⟨ret_bool (PB_false fun h => by have := h.2; omega).symm, rfl⟩

theorem impl_QueryName_any (s : ByteArray) (hs : s.size ≤ maxLen) (w : World) : Calls Try.prog 10 #[.string s] w fun e w' => e = .returned (.bool (PB (Qn s))) ∧ w = w' := by
  unfold maxLen at hs
  by_cases h1 : 1 ≤ s.size ∧ s.size ≤ 4
  · obtain ⟨h2, h3⟩ := h1
    have hq : ∃ b, (s.toList == [101, 97, 99, 104]) = b := ⟨_, rfl⟩
    obtain ⟨b, hb⟩ := hq
    cases b
    · go_enter Try.func10, Try.ntmps10
      go_wp2
      go_loop [3] (fun i => ∃ k : Nat, k ≤ s.size ∧ i = .int .i64 k ∧ ∀ j (h : j < s.size), j < k → 97 ≤ (s[j].toNat : Int) ∧ (s[j].toNat : Int) ≤ 122) (fun i => s.size - (intOf i).toNat)
      case atStart => exact ⟨0, Nat.zero_le _, rfl, fun j _ h => absurd h (by omega)⟩
      case round =>
        obtain ⟨k, hk, rfl, hall0⟩ := hrel
        have hall := Lib.hid hall0
        clear hall0
        by_cases hlt : k < s.size
        · by_cases h1 : (s[k].toNat : Int) < 97
          · go_wp2
            go_ret
            exact ⟨ret_bool (PB_false fun h => by have := h.1 k hlt; omega).symm, rfl⟩
          · by_cases h2 : 122 < (s[k].toNat : Int)
            · go_wp2
              go_ret
              exact ⟨ret_bool (PB_false fun h => by have := h.1 k hlt; omega).symm, rfl⟩
            · go_wp2
              go_round
              case rel =>
                refine ⟨k + 1, by omega, by go_num, fun j hj hjk => ?_⟩
                by_cases e : j = k
                · subst e; omega
                · exact hall.out j hj (by omega)
              case measure => simp [intOf]; omega
        · have hA : Hid (AllLow s) := fun j hj => hall.out j hj (by omega)
          go_wp2
          go_ret
          exact ⟨ret_bool (PB_true ⟨hA, h2, h3, hb⟩).symm, rfl⟩
    · go_enter Try.func10, Try.ntmps10
      go_wp2
      go_ret
      exact ⟨ret_bool (PB_false fun h => by rw [h.2.2.2] at hb; cases hb).symm, rfl⟩
  · rcases (by omega : s.size < 1 ∨ 4 < s.size) with h2 | h2
    all_goals
      go_enter Try.func10, Try.ntmps10
      go_wp2
      go_ret
      exact ⟨ret_bool (PB_false fun h => by have := h.2; omega).symm, rfl⟩

theorem FnExactQueryName_walk (s : ByteArray) (hs : s.size ≤ maxLen) (w : World) : Calls Try.prog 4 #[.string s] w fun e w' => e = .returned (.bool true) ∧ Below w.heap.size w w' := by
  have C1 := Lib.hid (fun w => spec_QueryName_any s hs w)
  have C2 := Lib.hid (fun w => impl_QueryName_any s hs w)
  unfold maxLen at hs
  by_cases hbig : 1048576 < s.size
  all_goals
    go_enter Try.func4, Try.ntmps4
    go_wp2_with (first
      | (go_at_call 9; refine (C1.out _).mono ?_; rintro e w1 ⟨rfl, rfl⟩)
      | (go_at_call 10; refine (C2.out _).mono ?_; rintro e w2 ⟨rfl, rfl⟩))
    go_ret
    exact ⟨rfl, Below.refl _ _⟩
end Go.Proofs.Ytefjnmoimoanfaa
