/- Relations: plus. Conditions: the length, the values in 32 bits. -/
import Derived.Test.YtgpjgigmlgoiiaaRel
import Derived.WalkSpells
import Derived.Lib.SliceRun
namespace Go.Proofs.Ytgpjgigmlgoiiaa
open Go.RowKit

def plS (rs : List Nat) (k i : Nat) : List Nat := if (rs.getD i 0).testBit k = true then rs.set i (rs.getD i 0 ||| rs.getD k 0) else rs
def plI (rs : List Nat) (k : Nat) : Nat → List Nat
  | 0 => rs
  | i + 1 => plS (plI rs k i) k i
def plK (rs : List Nat) : Nat → List Nat
  | 0 => rs
  | k + 1 => plI (plK rs k) k rs.length
def plusN (rs : List Nat) : List Nat := plK rs rs.length
theorem plS_len (rs : List Nat) (k i : Nat) : (plS rs k i).length = rs.length := by
  unfold plS
  split <;> simp
theorem plI_len (rs : List Nat) (k : Nat) : ∀ i, (plI rs k i).length = rs.length
  | 0 => rfl
  | i + 1 => by rw [plI, plS_len, plI_len rs k i]
theorem plK_len (rs : List Nat) : ∀ k, (plK rs k).length = rs.length
  | 0 => rfl
  | k + 1 => by rw [plK, plI_len, plK_len rs k]
theorem plS_lo {rs : List Nat} (h : Lo32 rs) (k i : Nat) : Lo32 (plS rs k i) := by
  unfold plS
  split
  · intro j
    simp only [List.getD, List.getElem?_set]
    split
    · split
      · have h1 := h i
        have h2 := h k
        simp only [List.getD] at h1 h2
        exact Nat.or_lt_two_pow (n := 32) h1 h2
      · simp
    · have := h j
      simpa [List.getD] using this
  · exact h
theorem plI_lo {rs : List Nat} (h : Lo32 rs) (k : Nat) : ∀ i, Lo32 (plI rs k i)
  | 0 => h
  | i + 1 => plS_lo (plI_lo h k i) k i
theorem plK_lo {rs : List Nat} (h : Lo32 rs) : ∀ k, Lo32 (plK rs k)
  | 0 => h
  | k + 1 => plI_lo (plK_lo h k) k rs.length
theorem one_u32 (rs : List Nat) : ∀ u ∈ u32s rs, u.oneCell' = true := by
  intro u hu
  obtain ⟨S, _, rfl⟩ := List.mem_map.1 hu
  rfl

set_option maxRecDepth 100000 in
set_option maxHeartbeats 1600000 in
theorem CloneU_any (A : Option Addr) (c : Nat) (rs : List Nat) (w : World) (hx : RdU w A rs) (hn : rs.length ≤ 4294967296) :
    Calls Try.prog 106 #[.slice A rs.length c] w (MadeU w rs) := by
  obtain ⟨i0, hi, hz0, hz1, hz2⟩ := info_parts Try.infoU32
  have qT : ∀ (w : World) (a : Option Addr) (n c n' c' : Nat), (binOp .eql 105 (.slice a n c) (.slice none n' c')).run Try.prog w = .ok (.bool a.isNone) w := fun w a n c n' c' => Lib.run_eql_slice_nil w _ _ a n c n' c' Try.underlying105
  rcases A with _ | ad
  · have hl : rs = [] := by
      rcases Nat.eq_zero_or_pos rs.length with h | h
      · exact List.eq_nil_of_length_eq_zero h
      · obtain ⟨ad, h2, _⟩ := hx.2 h
        cases h2
    subst hl
    clear hx
    go_enter Try.func106, Try.ntmps106
    go_wp2
    go_ret
    exact ⟨none, 0, rfl, World.ownsRow_nil _ _ _ _, Below.refl _ _⟩
  · have HX := Lib.hid (hx.below (below_alloc w (.cells #[] 80)))
    have hO : (w.alloc (.cells #[] 80)).ownsRow w.heap.size 80 1 (.slice (some ⟨w.heap.size, 0, none⟩) 0 0) 0 [] := World.ownsRow_made w #[] 0 (Nat.le_refl _) (by unfold maxLen; omega) rfl
    have HO := Lib.hid hO
    clear hx hO
    go_enter Try.func106, Try.ntmps106
    go_wp2_with (at_builtin
                 refine wpList_append_any _ rfl (.tmp 5) (.tmp 6) 105 rfl w.heap.size 80 i0 _ 1 4 Try.underlying105 hi hz0 hz1 hz2 rfl (by decide) _ 0 [] rfl HO.out (some ad) rs.length c (u32s rs) rfl HX.out (one_u32 rs) (by unfold maxLen; omega) (by omega) (by simp) ?_
                 intro v1 w3 hown3 hg3 _
                 obtain ⟨A1, c1', rfl, _, _⟩ := own_slice hown3)
    rw [Nat.zero_add, List.nil_append] at hown3
    have hb3 : Below w.heap.size w w3 := ((Below.refl w.heap.size w).alloc (Nat.le_refl _) _).grown hg3 (by simp) (fun r hr => (HO.out.lt r hr).1)
    go_ret
    exact ⟨A1, c1', rfl, hown3, hb3⟩

set_option maxRecDepth 100000 in
set_option maxHeartbeats 6400000 in
theorem plus_any (A : Option Addr) (c : Nat) (rs : List Nat) (w : World) (hx : RdU w A rs) (hn : rs.length ≤ 32) (ha : Lo32 rs) :
    Calls Try.prog 99 #[.slice A rs.length c] w (MadeU w (plusN rs)) := by
  have C := Lib.hid (CloneU_any A c rs w hx (by omega))
  have HA := Lib.hid ha
  clear hx ha
  go_enter Try.func99, Try.ntmps99
  go_wp2_with fail
  refine C.out.mono ?_
  rintro e w1 ⟨A1, c1, rfl, hown0, hb0⟩
  clear C
  go_wp2_with fail
  go_loopw [10] (fun i wr => ∃ (k : Nat), k ≤ rs.length ∧ i = .int .i64 k ∧ wr.ownsRow w.heap.size 80 1 (.slice A1 rs.length c1) rs.length (u32s (plK rs k)) ∧ Below w.heap.size w wr) (fun i _ => rs.length - (intOf i).toNat)
  case atStart => exact ⟨0, Nat.zero_le _, rfl, hown0, hb0⟩
  case round =>
    obtain ⟨k, hk, rfl, hown, hb⟩ := hrel
    clear hown0 hb0
    obtain ⟨wo, rfl⟩ : ∃ wo : World, wo = wr := ⟨_, rfl⟩
    by_cases hlt : k < rs.length
    · have k0 : (0 : Int) ≤ (k : Int) := by omega
      have k1 : (k : Int) < (rs.length : Int) := by omega
      have HO := Lib.hid hown
      have HBW := Lib.hid hb
      have HLK := Lib.hid (plK_lo HA.out k)
      obtain ⟨qs, hqs⟩ : ∃ qs, plK rs k = qs := ⟨_, rfl⟩
      have hql := plK_len rs k
      rw [hqs] at HO HLK hql
      have EQ := Lib.hid hqs
      clear hown hb hqs
      go_wp2_with fail
      go_loopw [15] (fun i wr => ∃ (j : Nat), j ≤ rs.length ∧ i = .int .i64 j ∧ wr.ownsRow w.heap.size 80 1 (.slice A1 rs.length c1) rs.length (u32s (plI qs k j)) ∧ Below w.heap.size w wr) (fun i _ => rs.length - (intOf i).toNat)
      case atStart => exact ⟨0, Nat.zero_le _, rfl, HO.out, HBW.out⟩
      case round =>
        clear HO HBW
        obtain ⟨j, hj, rfl, hown, hb⟩ := hrel
        obtain ⟨wq, rfl⟩ : ∃ wq : World, wq = wr := ⟨_, rfl⟩
        by_cases hjl : j < rs.length
        · obtain ⟨g, cap, hv, _, _⟩ := hown.form (by omega)
          injection hv with e1 e2 e3
          subst e1 e3
          have hll := plI_len qs k j
          have hlo := plI_lo HLK.out k j
          have hnx : plI qs k (j + 1) = plS (plI qs k j) k j := rfl
          obtain ⟨ps, hps⟩ : ∃ ps, plI qs k j = ps := ⟨_, rfl⟩
          rw [hps] at hown hll hlo hnx
          have hx0 := hlo j
          have hy0 := hlo k
          have c0 := hown.cellAt j (by omega)
          rw [u32s_at (by omega)] at c0
          have c1 := hown.cellAt k (by omega)
          rw [u32s_at (by omega)] at c1
          obtain ⟨x, hxx⟩ : ∃ x, ps.getD j 0 = x := ⟨_, rfl⟩
          obtain ⟨y, hyy⟩ : ∃ y, ps.getD k 0 = y := ⟨_, rfl⟩
          rw [hxx] at c0 hx0
          rw [hyy] at c1 hy0
          have EX := Lib.hid hxx
          have EY := Lib.hid hyy
          have hfo := hown.frozenAt j
          have hbt := bit_test x k (by omega)
          have j0 : (0 : Int) ≤ (j : Int) := by omega
          have j1 : (j : Int) < (rs.length : Int) := by omega
          have HOW := Lib.hid hown
          have HBW := Lib.hid hb
          have HNX := Lib.hid hnx
          clear hxx hyy hown hb hlo hps hnx
          cases hbit : x.testBit k with
          | false =>
            rw [hbit] at hbt
            have HBT := Lib.hid hbit
            clear hbit
            go_wp2
            clear hbt
            go_roundw
            case rel => exact ⟨j + 1, by omega, by go_num, by rw [HNX.out, plS, if_neg (by rw [EX.out, HBT.out]; simp)]; exact HOW.out, HBW.out⟩
            case measure => simp [intOf]; omega
          | true =>
            rw [hbit] at hbt
            have HBT := Lib.hid hbit
            have hor := u32_or_nat x y hx0 hy0
            clear hbit
            go_wp2_with fail
            go_region_law fail
            all_goals
              have HS := Lib.hid ((own_below HOW.out (Below.refl _ _).drew).stored j (.int .u32 ((x ||| y : Nat) : Int)))
              have HBD := Lib.hid (HBW.out.drew)
              clear hor hbt
              go_wp2
              go_roundw
              case rel =>
                refine ⟨j + 1, by omega, by go_num, ?_, HBD.out.grown HS.out.2 HBD.out.size (fun g hg => by cases hg; exact (HOW.out.lt _ rfl).1)⟩
                have h1 := HS.out.1
                rw [u32s_set] at h1
                rw [HNX.out, plS, if_pos (by rw [EX.out]; exact HBT.out), EX.out, EY.out]
                exact h1
              case measure => simp [intOf]; omega
        · obtain rfl : j = rs.length := by omega
          have HOW := Lib.hid hown
          clear hown
          go_wp2
          go_roundw
          case rel => exact ⟨k + 1, by omega, by go_num, by rw [plK, EQ.out]; exact HOW.out, hb⟩
          case measure => simp [intOf]; omega
    · obtain rfl : k = rs.length := by omega
      have hlen : (plusN rs).length = rs.length := plK_len rs _
      go_wp2
      go_ret
      exact ⟨A1, c1, by rw [hlen]; rfl, by rw [hlen]; exact hown, hb⟩
end Go.Proofs.Ytgpjgigmlgoiiaa
