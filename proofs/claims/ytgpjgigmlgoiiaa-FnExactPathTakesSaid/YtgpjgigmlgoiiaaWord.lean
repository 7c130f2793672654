/- spec.l07Word and spec.l07Line: the letters of a word; a word as a graph. Conditions: the length. -/
import Derived.Test.YtgpjgigmlgoiiaaStG
import Derived.Test.YtgpjgigmlgoiiaaClos
import Derived.Test.YtgpjgigmlgoiiaaApp
import Derived.Test.YtgpjgigmlgoiiaaGraphOk
import Derived.Deep.RegionLaw
namespace Go.Proofs.Ytgpjgigmlgoiiaa
open Go.RowKit

/-- A word of labels. -/
def WdOk (s : ByteArray) : Prop := s.size ≤ 12 ∧ ∀ i, i < s.size → 97 ≤ byN s i ∧ byN s i ≤ 100
/-- The edges of a word, as far as its first k letters. -/
def lineE (s : ByteArray) (k : Nat) : List Ed := (List.range k).map (fun (i : Nat) => ⟨(i : Int), (byN s i : Int), (i : Int) + 1⟩)
theorem lineE_len (s : ByteArray) (k : Nat) : (lineE s k).length = k := by simp [lineE]
theorem lineE_succ (s : ByteArray) (k : Nat) : lineE s (k + 1) = lineE s k ++ [⟨(k : Int), (byN s k : Int), (k : Int) + 1⟩] := by simp [lineE, List.range_succ]
theorem lineE_er (s : ByteArray) : ∀ e ∈ lineE s s.size, (0 ≤ e.f ∧ e.f < (s.size + 1 : Nat)) ∧ (0 ≤ e.t ∧ e.t < (s.size + 1 : Nat)) := by
  intro e he
  obtain ⟨i, hi, rfl⟩ := List.mem_map.1 he
  have := List.mem_range.1 hi
  simp only
  omega
theorem ret_b2' {a b : Bool} (h : a = b) : Ending.returned (.bool a) = .returned (.bool b) := by rw [h]
theorem byN_lt (s : ByteArray) (i : Nat) : byN s i < 256 := by
  unfold byN
  exact UInt8.toNat_lt _
/-- The steps of a word say what its graph says. -/
theorem stF_isU (s : ByteArray) (l : Int) (hs : s.size ≤ 12) (hl : ∃ m : Nat, l = m) : IsU (s.size + 1) (stF s l.toNat s.size) (stG (lineE s s.size) l) := by
  obtain ⟨m, rfl⟩ := hl
  refine ⟨rowF_len _ _, lo_rowF (fun i hi => ?_), fun i hi j => ?_⟩
  · split
    · rename_i h
      exact Nat.pow_lt_pow_right (by omega) (show i + 1 < 32 by omega)
    · omega
  · unfold RB stF
    rw [rowF_at hi]
    constructor
    · intro h
      split at h
      · rename_i h2
        rw [Nat.testBit_two_pow] at h
        have hj : i + 1 = j := by simpa using h
        refine ⟨by omega, ⟨(i : Int), (byN s i : Int), (i : Int) + 1⟩, ?_, by simp [h2.2], rfl, by simp only; omega⟩
        exact List.mem_map.2 ⟨i, List.mem_range.2 h2.1, rfl⟩
      · simp at h
    · rintro ⟨hj, e, he, h1, h2, h3⟩
      obtain ⟨a, ha, rfl⟩ := List.mem_map.1 he
      have ha := List.mem_range.1 ha
      simp only at h1 h2 h3
      have e1 : a = i := by omega
      subst e1
      rw [if_pos ⟨ha, by simp; omega⟩, Nat.testBit_two_pow]
      simp
      omega

set_option maxRecDepth 100000 in
set_option maxHeartbeats 1600000 in
theorem l07Word_any (s : ByteArray) (w : World) (hs : s.size ≤ 1048576) :
    Calls Try.prog 69 #[.string s] w fun e w' => e = .returned (.bool (PP (WdOk s))) ∧ w = w' := by
  go_enter Try.func69, Try.ntmps69
  go_wp2
  go_loopw [3] (fun i wr => ∃ (k : Nat), k ≤ s.size ∧ i = .int .i64 k ∧ Hid (∀ i, i < k → 97 ≤ byN s i ∧ byN s i ≤ 100) ∧ w = wr) (fun i _ => s.size - (intOf i).toNat)
  case atStart => exact ⟨0, Nat.zero_le _, rfl, Lib.hid (fun i hi => absurd hi (by omega)), rfl⟩
  case round =>
    obtain ⟨k, hk, rfl, HD, hw⟩ := hrel
    subst hw
    by_cases hlt : k < s.size
    · obtain ⟨x, hx⟩ : ∃ x, s[k].toNat = x := ⟨_, rfl⟩
      have HX := Lib.hid (show byN s k = x by rw [byN_eq s k hlt, hx])
      have hno : Hid (¬ (97 ≤ x ∧ x ≤ 100) → PP (WdOk s) = false) := Lib.hid (fun h => PP_no (fun h2 => h (by have := h2.2 k hlt; rw [HX.out] at this; exact this)))
      by_cases h1 : x < 97
      · have e1 : decide ((x : Int) < 97) = true := decide_eq_true (by omega)
        have E := Lib.hid (hno.out (by omega))
        go_wp2
        go_ret
        exact ⟨ret_b2' E.out.symm, rfl⟩
      · have e1 : decide ((x : Int) < 97) = false := decide_eq_false (by omega)
        by_cases h2 : 100 < x
        · have e2 : decide ((100 : Int) < (x : Int)) = true := decide_eq_true (by omega)
          have E := Lib.hid (hno.out (by omega))
          go_wp2
          go_ret
          exact ⟨ret_b2' E.out.symm, rfl⟩
        · have e2 : decide ((100 : Int) < (x : Int)) = false := decide_eq_false (by omega)
          have HD2 : Hid (∀ i, i < k + 1 → 97 ≤ byN s i ∧ byN s i ≤ 100) := Lib.hid (fun i hi => by
            by_cases e : i = k
            · subst e; rw [HX.out]; omega
            · exact HD.out i (by omega))
          go_wp2
          go_roundw
          case rel => exact ⟨k + 1, by omega, by go_num, HD2, by first | trivial | rfl⟩
          case measure => simp [intOf]; omega
    · obtain rfl : k = s.size := by omega
      have E : Hid (PP (WdOk s) = decide ((s.size : Int) ≤ 12)) := Lib.hid (by
        by_cases h : s.size ≤ 12
        · rw [PP_yes ⟨h, HD.out⟩, decide_eq_true (by omega)]
        · rw [PP_no (fun h2 => h h2.1), decide_eq_false (by omega)])
      go_wp2
      go_ret
      exact ⟨ret_b2' E.out.symm, rfl⟩
end Go.Proofs.Ytgpjgigmlgoiiaa
