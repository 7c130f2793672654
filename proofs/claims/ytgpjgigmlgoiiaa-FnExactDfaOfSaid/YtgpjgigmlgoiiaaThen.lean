/- Relations: then. Conditions: the lengths, the values in 32 bits. -/
import Derived.Test.YtgpjgigmlgoiiaaRel
namespace Go.Proofs.Ytgpjgigmlgoiiaa
open Go.RowKit

def thO (a b : List Nat) (k : Nat) : List Nat := rowF a.length (fun i => if i < k then thTo b (a.getD i 0) b.length else 0)
def thF (a b : List Nat) (k j : Nat) : List Nat := rowF a.length (fun i => if i < k then thTo b (a.getD i 0) b.length else if i = k then thTo b (a.getD i 0) j else 0)
theorem thF_zero (a b : List Nat) (k : Nat) : thF a b k 0 = thO a b k := by
  refine rowF_ext (fun i _ => ?_)
  simp only [thTo]
  split
  · rfl
  · split <;> rfl
theorem thF_end (a b : List Nat) (k : Nat) : thF a b k b.length = thO a b (k + 1) := by
  refine rowF_ext (fun i _ => ?_)
  by_cases h : i < k
  · rw [if_pos h, if_pos (by omega)]
  · rw [if_neg h]
    by_cases e : i = k
    · rw [if_pos e, if_pos (by omega)]
    · rw [if_neg e, if_neg (by omega)]
theorem thO_end (a b : List Nat) : thO a b a.length = thenN a b := by
  refine rowF_ext (fun i h => ?_)
  rw [if_pos h]
theorem thF_same {a b : List Nat} {k j : Nat} (h : (a.getD k 0).testBit j = false) : thF a b k (j + 1) = thF a b k j := by
  refine rowF_ext (fun i _ => ?_)
  by_cases h1 : i < k
  · rw [if_pos h1, if_pos h1]
  · rw [if_neg h1, if_neg h1]
    by_cases e : i = k
    · subst e
      rw [if_pos rfl, if_pos rfl, thTo, if_neg (by rw [h]; simp)]
    · rw [if_neg e, if_neg e]
theorem thF_set {a b : List Nat} {k j : Nat} (h : (a.getD k 0).testBit j = true) : (thF a b k j).set k (thTo b (a.getD k 0) j ||| b.getD j 0) = thF a b k (j + 1) := by
  unfold thF
  rw [rowF_set]
  refine rowF_ext (fun i _ => ?_)
  by_cases e : i = k
  · subst e
    rw [if_pos rfl, if_neg (by omega), if_pos rfl, thTo, if_pos h]
  · rw [if_neg e]
    by_cases h1 : i < k
    · rw [if_pos h1, if_pos h1]
    · rw [if_neg h1, if_neg h1, if_neg e, if_neg e]
theorem thF_at {a b : List Nat} {k j : Nat} (hk : k < a.length) : (thF a b k j).getD k 0 = thTo b (a.getD k 0) j := by
  unfold thF
  rw [rowF_at hk, if_neg (by omega), if_pos rfl]

set_option maxRecDepth 100000 in
set_option maxHeartbeats 6400000 in
theorem then_any (A B : Option Addr) (c d : Nat) (as_ bs : List Nat) (w : World) (hx : RdU w A as_) (hy : RdU w B bs) (hn : as_.length ≤ 32) (hm : bs.length ≤ 32) (ha : Lo32 as_) (hb : Lo32 bs) :
    Calls Try.prog 97 #[.slice A as_.length c, .slice B bs.length d] w (MadeU w (thenN as_ bs)) := by
  obtain ⟨i0, hi, hz0, hz1, hz2⟩ := info_parts Try.infoU32
  have HX := Lib.hid hx
  have HY := Lib.hid hy
  have HA := Lib.hid ha
  have HB := Lib.hid hb
  have hz := made_zero as_.length
  clear hx hy ha hb
  go_enter Try.func97, Try.ntmps97
  go_wp2_with (first
    | (at_make
       refine wpList_make_full _ rfl _ _ 105 rfl w.heap.size 80 i0 (.int .u32 0) 1 Try.underlying105 hi hz0 hz1 .i64 .i64 (as_.length : Int) (as_.length : Int) as_.length rfl rfl rfl rfl (by rw [hz2]; omega) (by unfold maxLen; omega) (Nat.le_refl _) ?_
       intro w0 hown0 hg0
       have hb0 := (Below.refl w.heap.size w).grown hg0 (Nat.le_refl _) (fun g hg => by cases hg)))
  have hown1 : w0.ownsRow w.heap.size 80 1 (.slice (some ⟨w.heap.size, 0, none⟩) as_.length as_.length) as_.length (u32s (thO as_ bs 0)) := by
    have e : thO as_ bs 0 = rowF as_.length (fun _ => 0) := rowF_ext (fun i _ => by rw [if_neg (by omega)])
    rw [e, ← hz]
    have h := hown0
    rw [Nat.mul_one] at h
    exact h
  go_loopw [14] (fun i wr => ∃ (k : Nat), k ≤ as_.length ∧ i = .int .i64 k ∧ wr.ownsRow w.heap.size 80 1 (.slice (some ⟨w.heap.size, 0, none⟩) as_.length as_.length) as_.length (u32s (thO as_ bs k)) ∧ Below w.heap.size w wr) (fun i _ => as_.length - (intOf i).toNat)
  case atStart => exact ⟨0, Nat.zero_le _, rfl, hown1, hb0⟩
  case round =>
    obtain ⟨k, hk, rfl, hown, hb⟩ := hrel
    clear hown0 hown1 hg0 hb0 hz
    obtain ⟨wo, rfl⟩ : ∃ wo : World, wo = wr := ⟨_, rfl⟩
    by_cases hlt : k < as_.length
    · obtain ⟨ad, rfl, x0⟩ := (HX.out.below hb).at_ hlt
      have hxa := HA.out k
      obtain ⟨x, hxx⟩ : ∃ x, as_.getD k 0 = x := ⟨_, rfl⟩
      rw [hxx] at x0 hxa
      have EX := Lib.hid hxx
      have k0 : (0 : Int) ≤ (k : Int) := by omega
      have k1 : (k : Int) < (as_.length : Int) := by omega
      have HO := Lib.hid hown
      have HBW := Lib.hid hb
      clear hxx hown hb
      go_wp2_with fail
      go_loopw [21] (fun i wr => ∃ (j : Nat), j ≤ bs.length ∧ i = .int .i64 j ∧ wr.ownsRow w.heap.size 80 1 (.slice (some ⟨w.heap.size, 0, none⟩) as_.length as_.length) as_.length (u32s (thF as_ bs k j)) ∧ Below w.heap.size w wr) (fun i _ => bs.length - (intOf i).toNat)
      case atStart => exact ⟨0, Nat.zero_le _, rfl, by rw [thF_zero]; exact HO.out, HBW.out⟩
      case round =>
        clear HO HBW x0
        obtain ⟨j, hj, rfl, hown, hb⟩ := hrel
        obtain ⟨wq, rfl⟩ : ∃ wq : World, wq = wr := ⟨_, rfl⟩
        by_cases hjl : j < bs.length
        · obtain ⟨ad2, rfl, y0⟩ := (HY.out.below hb).at_ hjl
          have hyb := HB.out j
          have htl := thTo_lt HB.out x j
          obtain ⟨y, hyy⟩ : ∃ y, bs.getD j 0 = y := ⟨_, rfl⟩
          rw [hyy] at y0 hyb
          have EY := Lib.hid hyy
          have hbt := bit_test x j (by omega)
          have hat : (u32s (thF as_ bs k j))[k]? = some (.int .u32 ((thTo bs x j : Nat) : Int)) := by
            have h1 := u32s_at (rs := thF as_ bs k j) (k := k) (by rw [thF, rowF_len]; exact hlt)
            rw [thF_at hlt, EX.out] at h1
            exact h1
          have hco := hown.cellAt k (by omega)
          rw [hat] at hco
          have hfo := hown.frozenAt k
          obtain ⟨T, hT⟩ : ∃ T, thTo bs x j = T := ⟨_, rfl⟩
          rw [hT] at hco htl
          have ET := Lib.hid hT
          have j0 : (0 : Int) ≤ (j : Int) := by omega
          have j1 : (j : Int) < (bs.length : Int) := by omega
          have HOW := Lib.hid hown
          have HBW := Lib.hid hb
          clear hyy hat hT hown hb
          cases hbit : x.testBit j with
          | false =>
            rw [hbit] at hbt
            have HBT := Lib.hid hbit
            clear hbit
            go_wp2
            clear hbt
            go_roundw
            case rel => exact ⟨j + 1, by omega, by go_num, by rw [thF_same (by rw [EX.out]; exact HBT.out)]; exact HOW.out, HBW.out⟩
            case measure => simp [intOf]; omega
          | true =>
            rw [hbit] at hbt
            have HBT := Lib.hid hbit
            have hor := u32_or_nat T y htl hyb
            clear hbit
            go_wp2_with fail
            go_region_law fail
            all_goals
              have HS := Lib.hid ((own_below HOW.out (Below.refl _ _).drew).stored k (.int .u32 ((T ||| y : Nat) : Int)))
              have HBD := Lib.hid (HBW.out.drew)
              clear hor hbt
              go_wp2
              go_roundw
              case rel =>
                refine ⟨j + 1, by omega, by go_num, ?_, HBD.out.grown HS.out.2 HBD.out.size (fun g hg => by cases hg; exact Nat.le_refl _)⟩
                have h1 := HS.out.1
                rw [u32s_set, ← ET.out, ← EY.out, ← EX.out, thF_set (by rw [EX.out]; exact HBT.out)] at h1
                rw [← ET.out, ← EY.out, ← EX.out]
                exact h1
              case measure => simp [intOf]; omega
        · obtain rfl : j = bs.length := by omega
          rw [thF_end] at hown
          go_wp2
          go_roundw
          case rel => exact ⟨k + 1, by omega, by go_num, hown, hb⟩
          case measure => simp [intOf]; omega
    · obtain rfl : k = as_.length := by omega
      rw [thO_end] at hown
      have hlen : (thenN as_ bs).length = as_.length := rowF_len _ _
      go_wp2
      go_ret
      exact ⟨some ⟨w.heap.size, 0, none⟩, as_.length, by rw [hlen]; rfl, by rw [hlen]; exact hown, hb⟩
end Go.Proofs.Ytgpjgigmlgoiiaa
