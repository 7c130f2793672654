/- slices.Equal on ints; how often a row stands in a bag. Conditions: the sizes of the lengths. Printed by xtimes.py. -/
import Derived.Test.YtdikkfhdogkniaaSPutB
import Derived.Test.YtdikkfhdogkniaaBagSize
namespace Go.Proofs.Ytdikkfhdogkniaa
open Go.RowKit
set_option maxRecDepth 100000 in

set_option maxHeartbeats 800000 in
theorem slices_EqualI_any (A B : Option Addr) (n m c d : Nat) (xs ys : List Int) (w : World) (hx : RdI w A n xs) (hy : RdI w B m ys) (hn : n ≤ 4294967296) :
    Calls Try.prog 68 #[.slice A n c, .slice B m d] w fun e w' => e = .returned (.bool (eqL xs ys)) ∧ Below w.heap.size w w' := by
  have l1 := hx.len
  have l2 := hy.len
  by_cases hnm : n = m
  · subst hnm
    have HX := Lib.hid hx
    have HY := Lib.hid hy
    have L1 := Lib.hid l1
    have L2 := Lib.hid l2
    clear hx hy l1 l2
    go_enter Try.func68, Try.ntmps68
    go_wp2
    go_loopw [13] (fun i wr => ∃ k : Nat, k ≤ n ∧ i = .int .i64 k ∧ Hid (xs.take k = ys.take k) ∧ Below w.heap.size w wr) (fun i _ => n - (intOf i).toNat)
    case atStart => exact ⟨0, Nat.zero_le _, rfl, by show _ = _; simp, Below.refl _ _⟩
    case round =>
      obtain ⟨k, hk, rfl, HE, hb⟩ := hrel
      by_cases hlt : k < n
      · obtain ⟨ad, rfl, hc⟩ := (RdI.below HX.out hb).at_ hlt
        obtain ⟨bd, rfl, hd⟩ := (RdI.below HY.out hb).at_ hlt
        obtain ⟨x, hxx⟩ : ∃ x, xs.getD k 0 = x := ⟨_, rfl⟩
        obtain ⟨y, hyy⟩ : ∃ y, ys.getD k 0 = y := ⟨_, rfl⟩
        rw [hxx] at hc
        rw [hyy] at hd
        have EX := Lib.hid hxx
        have EY := Lib.hid hyy
        clear hxx hyy
        have k0 : (0 : Int) ≤ (k : Int) := by omega
        have k1 : (k : Int) < (n : Int) := by omega
        by_cases hxy : x = y
        · have b1 : (x != y) = false := by rw [bne_eq_false_iff_eq]; exact hxy
          have HXY := Lib.hid hxy
          clear hxy
          go_wp2_with fail
          go_quiet (fail)
          go_wp2
          go_roundw
          case rel => exact ⟨k + 1, by omega, by go_num, by show _ = _; rw [take_next (by have := L1.out; omega), take_next (l := ys) (by have := L2.out; omega), HE.out, EX.out, EY.out, HXY.out], below_drewN hb _⟩
          case measure => simp [intOf]; omega
        · have b1 : (x != y) = true := by rw [bne_iff_ne]; exact hxy
          have HXY := Lib.hid hxy
          clear hxy
          go_wp2_with fail
          go_quiet (fail)
          go_wp2
          go_ret
          exact ⟨ret_b (eqL_no fun h => HXY.out (by rw [← EX.out, ← EY.out, h])).symm, below_drewN hb _⟩
      · obtain rfl : k = n := by omega
        go_wp2
        go_ret
        refine ⟨ret_b (eqL_yes ?_).symm, hb⟩
        have := HE.out
        rw [List.take_of_length_le (by have := L1.out; omega), List.take_of_length_le (by have := L2.out; omega)] at this
        exact this
  · have b1 : ((n : Int) != (m : Int)) = true := by rw [bne_iff_ne]; omega
    have hne : eqL xs ys = false := eqL_no fun h => hnm (by rw [← l1, ← l2, h])
    rw [hne]
    clear hx hy l1 l2 hne
    go_enter Try.func68, Try.ntmps68
    go_wp2
    go_ret
    exact ⟨rfl, Below.refl _ _⟩


/-- How often a row stands in a bag. -/
def timesL : List It → List Int → Int
  | [], _ => 0
  | x :: ps, row => if x.r = row then x.t else timesL ps row

set_option maxRecDepth 100000 in
set_option maxHeartbeats 1600000 in
theorem impl_BagTimes_any (A E : Option Addr) (c m : Nat) (ps : List It) (row : List Int) (w : World) (hx : RdB w A ps) (hy : RdI w E row.length row) (hn : ps.length ≤ 4294967296) (hk : ∀ p ∈ ps, p.r.length ≤ 4294967296) :
    Calls Try.prog 36 #[.agg #[.slice A ps.length c], .slice E row.length m] w fun e w' => e = .returned (.int .i64 (timesL ps row)) ∧ Below w.heap.size w w' := by
  have HX := Lib.hid hx
  have HY := Lib.hid hy
  have HK := Lib.hid hk
  have P0 := Lib.hid (heap_alloc_new w (.cells #[.slice A ps.length c] 29))
  have B0 := Lib.hid (below_alloc w (.cells #[.slice A ps.length c] 29))
  clear hx hy hk
  go_enter Try.func36, Try.ntmps36
  go_wp2
  go_loopw [10] (fun i wr => ∃ (k : Nat), k ≤ ps.length ∧ i = .int .i64 k ∧ Hid (timesL ps row = timesL (ps.drop k) row) ∧ wr.heap[w.heap.size]? = some (.cells #[.slice A ps.length c] 29 (0, 0)) ∧ Below w.heap.size w wr) (fun i _ => ps.length - (intOf i).toNat)
  case atStart => exact ⟨0, Nat.zero_le _, rfl, Lib.hid rfl, P0.out, B0.out⟩
  case round =>
    clear P0 B0
    obtain ⟨k, hk, rfl, HT, hq, hb⟩ := hrel
    have q0 := blk_cell (o := 0) hq rfl
    have Q := Lib.hid hq
    clear hq
    by_cases hlt : k < ps.length
    · have hdr := List.drop_eq_getElem_cons hlt
      obtain ⟨b, o, Kk, ck, rfl, c0, c1, hrk⟩ := (RdB.keep HX.out hb).at_ hlt
      have hkl := HK.out ps[k] (List.getElem_mem hlt)
      obtain ⟨x, hxx⟩ : ∃ x, ps[k] = x := ⟨_, rfl⟩
      rw [hxx] at c0 c1 hkl hrk hdr
      have HDR := Lib.hid hdr
      obtain ⟨xr, xt⟩ := x
      simp only at c0 c1 hkl hrk
      have k0 : (0 : Int) ≤ (k : Int) := by omega
      have k1 : (k : Int) < (ps.length : Int) := by omega
      clear hdr hxx
      have HB := Lib.hid hb
      have hbl := World.block_lt_of_cell? _ _ c0
      have ka := below_alloc wr (.cells #[.slice Kk xr.length ck, .int .i64 xt] 54)
      have KA := Lib.hid ka
      have y := heap_alloc_new wr (.cells #[.slice Kk xr.length ck, .int .i64 xt] 54)
      have Y := Lib.hid y
      have HE1 := Lib.hid (RdI.below (HY.out.below hb) ka)
      have HK1 := Lib.hid (RdI.below hrk ka)
      have C := Lib.hid (slices_EqualI_any Kk E xr.length row.length ck m xr row _ HK1.out HE1.out hkl)
      obtain ⟨r, hr⟩ : ∃ r, eqL xr row = r := ⟨_, rfl⟩
      rw [hr] at C
      have HR := Lib.hid hr
      clear ka y hrk hb hr
      go_wp2_with fail
      refine C.out.mono ?_
      rintro e w2 ⟨rfl, k2⟩
      have y2 := blk_below k2 Y.out
      have y0 := blk_cell (o := 0) y2 rfl
      have y1 := blk_cell (o := 1) y2 rfl
      have BF := Lib.hid (below_step (below_step HB.out KA.out) k2)
      have QF := Lib.hid (blk_below k2 (blk_below KA.out Q.out))
      clear C k2 c0
      cases r
      · have hne : xr ≠ row := fun h => by have := HR.out; rw [eqL_yes h] at this; cases this
        have HN := Lib.hid hne
        clear hne
        go_wp2
        go_roundw
        case rel => exact ⟨k + 1, by omega, by go_num, Lib.hid (by rw [HT.out, HDR.out, timesL, if_neg HN.out]), QF.out, BF.out⟩
        case measure => simp [intOf]; omega
      · have heq : xr = row := by have := HR.out; unfold eqL at this; exact of_decide_eq_true this
        have HN := Lib.hid heq
        clear heq
        go_wp2
        go_ret
        exact ⟨val_i64 (by rw [HT.out, HDR.out, timesL, if_pos HN.out]), BF.out⟩
    · obtain rfl : k = ps.length := by omega
      go_wp2
      go_ret
      exact ⟨val_i64 (by rw [HT.out, List.drop_length]; rfl), hb⟩

set_option maxRecDepth 100000 in
set_option maxHeartbeats 1600000 in
theorem spec_BagTimes_any (A E : Option Addr) (c m : Nat) (ps : List It) (row : List Int) (w : World) (hx : RdB w A ps) (hy : RdI w E row.length row) (hn : ps.length ≤ 4294967296) (hk : ∀ p ∈ ps, p.r.length ≤ 4294967296) :
    Calls Try.prog 38 #[.agg #[.slice A ps.length c], .slice E row.length m] w fun e w' => e = .returned (.int .i64 (timesL ps row)) ∧ Below w.heap.size w w' := by
  have HX := Lib.hid hx
  have HY := Lib.hid hy
  have HK := Lib.hid hk
  have P0 := Lib.hid (heap_alloc_new w (.cells #[.slice A ps.length c] 29))
  have B0 := Lib.hid (below_alloc w (.cells #[.slice A ps.length c] 29))
  clear hx hy hk
  go_enter Try.func38, Try.ntmps38
  go_wp2
  go_loopw [5] (fun i wr => ∃ (k : Nat), k ≤ ps.length ∧ i = .int .i64 k ∧ Hid (timesL ps row = timesL (ps.drop k) row) ∧ wr.heap[w.heap.size]? = some (.cells #[.slice A ps.length c] 29 (0, 0)) ∧ Below w.heap.size w wr) (fun i _ => ps.length - (intOf i).toNat)
  case atStart => exact ⟨0, Nat.zero_le _, rfl, Lib.hid rfl, P0.out, B0.out⟩
  case round =>
    clear P0 B0
    obtain ⟨k, hk, rfl, HT, hq, hb⟩ := hrel
    have q0 := blk_cell (o := 0) hq rfl
    have Q := Lib.hid hq
    clear hq
    by_cases hlt : k < ps.length
    · have hdr := List.drop_eq_getElem_cons hlt
      obtain ⟨b, o, Kk, ck, rfl, c0, c1, hrk⟩ := (RdB.keep HX.out hb).at_ hlt
      have hkl := HK.out ps[k] (List.getElem_mem hlt)
      obtain ⟨x, hxx⟩ : ∃ x, ps[k] = x := ⟨_, rfl⟩
      rw [hxx] at c0 c1 hkl hrk hdr
      have HDR := Lib.hid hdr
      obtain ⟨xr, xt⟩ := x
      simp only at c0 c1 hkl hrk
      have k0 : (0 : Int) ≤ (k : Int) := by omega
      have k1 : (k : Int) < (ps.length : Int) := by omega
      clear hdr hxx
      have HB := Lib.hid hb
      have hbl := World.block_lt_of_cell? _ _ c0
      have C := Lib.hid (l03Same_any Kk E xr.length row.length ck m xr row wr hrk (HY.out.below hb) hkl)
      obtain ⟨r, hr⟩ : ∃ r, eqL xr row = r := ⟨_, rfl⟩
      rw [hr] at C
      have HR := Lib.hid hr
      clear hrk hb hr
      go_wp2_with fail
      refine C.out.mono ?_
      rintro e w2 ⟨rfl, k2⟩
      have q0 := blk_cell (o := 0) (blk_below k2 Q.out) rfl
      have c1 := held_step k2 c1
      have BF := Lib.hid (below_step HB.out k2)
      have QF := Lib.hid (blk_below k2 Q.out)
      clear C k2 c0
      cases r
      · have hne : xr ≠ row := fun h => by have := HR.out; rw [eqL_yes h] at this; cases this
        have HN := Lib.hid hne
        clear hne
        go_wp2
        go_roundw
        case rel => exact ⟨k + 1, by omega, by go_num, Lib.hid (by rw [HT.out, HDR.out, timesL, if_neg HN.out]), QF.out, BF.out⟩
        case measure => simp [intOf]; omega
      · have heq : xr = row := by have := HR.out; unfold eqL at this; exact of_decide_eq_true this
        have HN := Lib.hid heq
        clear heq
        go_wp2
        go_ret
        exact ⟨val_i64 (by rw [HT.out, HDR.out, timesL, if_pos HN.out]), BF.out⟩
    · obtain rfl : k = ps.length := by omega
      go_wp2
      go_ret
      exact ⟨val_i64 (by rw [HT.out, List.drop_length]; rfl), hb⟩
end Go.Proofs.Ytdikkfhdogkniaa
