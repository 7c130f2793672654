/- The closures that tell the relation of a step. Conditions: what they captured, the lengths. -/
import Derived.Test.YtgpjgigmlgoiiaaRel
import Derived.Test.YtgpjgigmlgoiiaaGMem
import Derived.Test.YtgpjgigmlgoiiaaBlk
import Derived.Lib.Strings
namespace Go.Proofs.Ytgpjgigmlgoiiaa
open Go.RowKit

def byN (s : ByteArray) (i : Nat) : Nat := (s.data.toList.getD i 0).toNat
theorem byN_eq (s : ByteArray) (j : Nat) (h : j < s.size) : byN s j = s[j].toNat := by
  unfold byN
  rw [List.getD_eq_getElem?_getD, List.getElem?_eq_getElem (by simpa using h)]
  rfl
/-- The steps of a word, as far as its first k letters. -/
def stF (s : ByteArray) (l : Nat) (k : Nat) : List Nat := rowF (s.size + 1) (fun i => if i < k ∧ byN s i = l then 2 ^ (i + 1) else 0)
theorem stF_same {s : ByteArray} {l k : Nat} (h : byN s k ≠ l) : stF s l (k + 1) = stF s l k := by
  refine rowF_ext (fun i _ => ?_)
  by_cases e : i < k ∧ byN s i = l
  · rw [if_pos e, if_pos ⟨by omega, e.2⟩]
  · rw [if_neg e, if_neg (fun h2 => by
      rcases (by omega : i < k ∨ i = k) with h3 | h3
      · exact e ⟨h3, h2.2⟩
      · subst h3; exact h h2.2)]
theorem stF_set {s : ByteArray} {l k : Nat} (h : byN s k = l) : (stF s l k).set k (2 ^ (k + 1)) = stF s l (k + 1) := by
  unfold stF
  rw [rowF_set]
  refine rowF_ext (fun i _ => ?_)
  by_cases e : i = k
  · subst e; rw [if_pos rfl, if_pos ⟨by omega, h⟩]
  · rw [if_neg e]
    by_cases h2 : i < k ∧ byN s i = l
    · rw [if_pos h2, if_pos ⟨by omega, h2.2⟩]
    · rw [if_neg h2, if_neg (fun h3 => h2 ⟨by omega, h3.2⟩)]

set_option maxRecDepth 100000 in
set_option maxHeartbeats 3200000 in
theorem takesStep_any (s : ByteArray) (l gn gw : Nat) (w : World) (hs : s.size ≤ 12) (cn : w.cell? ⟨gn, 0, none⟩ = some (.int .i64 ((s.size : Int) + 1))) (cw : w.cell? ⟨gw, 0, none⟩ = some (.string s)) :
    Calls Try.prog 76 #[.int .u8 l, .pointer (some ⟨gn, 0, none⟩), .pointer (some ⟨gw, 0, none⟩)] w (MadeU w (stF s l s.size)) := by
  obtain ⟨i0, hi, hz0, hz1, hz2⟩ := info_parts Try.infoU32
  have hz := made_zero (s.size + 1)
  have CW := Lib.hid cw
  go_enter Try.func76, Try.ntmps76
  go_wp2_with (first
    | (at_make
       refine wpList_make_full _ rfl _ _ 105 rfl w.heap.size 80 i0 (.int .u32 0) 1 Try.underlying105 hi hz0 hz1 .i64 .i64 ((s.size : Int) + 1) ((s.size : Int) + 1) (s.size + 1) rfl rfl (by push_cast; rfl) (by push_cast; rfl) (by rw [hz2]; omega) (by unfold maxLen; omega) (Nat.le_refl _) ?_
       intro w0 hown0 hg0
       have hb0 := (Below.refl w.heap.size w).grown hg0 (Nat.le_refl _) (fun g hg => by cases hg)))
  have hown1 : w0.ownsRow w.heap.size 80 1 (.slice (some ⟨w.heap.size, 0, none⟩) (s.size + 1) (s.size + 1)) (s.size + 1) (u32s (stF s l 0)) := by
    have e : stF s l 0 = rowF (s.size + 1) (fun _ => 0) := rowF_ext (fun i _ => by rw [if_neg (by omega)])
    rw [e, ← hz]
    have h := hown0
    rw [Nat.mul_one] at h
    exact h
  go_loopw [6] (fun i wr => ∃ (k : Nat), k ≤ s.size ∧ i = .int .i64 k ∧ wr.ownsRow w.heap.size 80 1 (.slice (some ⟨w.heap.size, 0, none⟩) (s.size + 1) (s.size + 1)) (s.size + 1) (u32s (stF s l k)) ∧ Below w.heap.size w wr) (fun i _ => s.size - (intOf i).toNat)
  case atStart => exact ⟨0, Nat.zero_le _, rfl, hown1, hb0⟩
  case round =>
    obtain ⟨k, hk, rfl, hown, hb⟩ := hrel
    clear hown0 hown1 hg0 hb0 hz cn cw
    have cw := held_step hb CW.out
    have HOW := Lib.hid hown
    have HBW := Lib.hid hb
    by_cases hlt : k < s.size
    · obtain ⟨x, hx⟩ : ∃ x, s[k].toNat = x := ⟨_, rfl⟩
      have HX := Lib.hid (show byN s k = x by rw [byN_eq s k hlt, hx])
      have hat := u32s_at (rs := stF s l k) (k := k) (by rw [stF, rowF_len]; omega)
      have hco := hown.cellAt k (by omega)
      rw [hat] at hco
      have hfo := hown.frozenAt k
      obtain ⟨T, hT⟩ : ∃ T, (stF s l k).getD k 0 = T := ⟨_, rfl⟩
      rw [hT] at hco
      clear hat hT hown hb
      by_cases hxl : x = l
      · have n1 : ((x : Int) == (l : Int)) = true := by rw [beq_iff_eq]; omega
        have HXL := Lib.hid hxl
        clear hxl
        have hp := pow_32 (k + 1) (by omega)
        have HS := Lib.hid (HOW.out.stored k (.int .u32 ((2 ^ (k + 1) : Nat) : Int)))
        go_wp2
        clear hp
        go_roundw
        case rel =>
          have h1 := HS.out.1
          rw [u32s_set, stF_set (by rw [HX.out]; exact HXL.out)] at h1
          have h2 := HS.out.2
          refine ⟨k + 1, by omega, by go_num, ?_, ?_⟩
          · first | exact h1 | (simp only [pow_32 (k + 1) (by omega)]; exact h1)
          · first | exact HBW.out.grown h2 HBW.out.size (fun g hg => by cases hg; exact Nat.le_refl _) | (simp only [pow_32 (k + 1) (by omega)]; exact HBW.out.grown h2 HBW.out.size (fun g hg => by cases hg; exact Nat.le_refl _))
        case measure => simp [intOf]; omega
      · have n1 : ((x : Int) == (l : Int)) = false := by rw [beq_eq_false_iff_ne]; omega
        have HXL := Lib.hid hxl
        clear hxl
        go_wp2
        go_roundw
        case rel => exact ⟨k + 1, by omega, by go_num, by rw [stF_same (by rw [HX.out]; exact HXL.out)]; exact HOW.out, HBW.out⟩
        case measure => simp [intOf]; omega
    · obtain rfl : k = s.size := by omega
      have hlen : (stF s l s.size).length = s.size + 1 := rowF_len _ _
      clear hown hb
      go_wp2
      go_ret
      exact ⟨some ⟨w.heap.size, 0, none⟩, s.size + 1, by rw [hlen]; rfl, by rw [hlen]; exact HOW.out, HBW.out⟩
end Go.Proofs.Ytgpjgigmlgoiiaa
