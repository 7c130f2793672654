/- BagSize: program and reference. Conditions: the sizes of the lengths. -/
import Derived.Test.YtdikkfhdogkniaaSBagOk
namespace Go.Proofs.Ytdikkfhdogkniaa
open Go.RowKit

/-- All times together. -/
def sumT (ps : List It) : Int := (ps.map It.t).sum
noncomputable def bgSize (ps : List It) : Int := if PP (BgOk ps) then min (sumT ps) 1000000 else 0
theorem sumT_next {ps : List It} {k : Nat} (h : k < ps.length) : sumT (ps.take (k + 1)) = sumT (ps.take k) + ps[k].t := by
  unfold sumT
  rw [List.take_succ_eq_append_getElem h, List.map_append, List.sum_append]
  simp

set_option maxRecDepth 100000 in
set_option maxHeartbeats 1600000 in
theorem impl_BagSize_any (A : Option Addr) (c : Nat) (ps : List It) (w : World) (hx : RdB w A ps) (hn : ps.length ≤ 4294967296) (hk : ∀ p ∈ ps, p.r.length ≤ 4294967296) :
    Calls Try.prog 18 #[.agg #[.slice A ps.length c]] w fun e w' => e = .returned (.int .i64 (bgSize ps)) ∧ Below w.heap.size w w' := by
  have HX := Lib.hid hx
  have C := Lib.hid (impl_BagOk_any A c ps (w.alloc (.cells #[.slice A ps.length c] 29)) (hx.alloc _) hn hk)
  have P0 := Lib.hid (heap_alloc_new w (.cells #[.slice A ps.length c] 29))
  have B0 := Lib.hid (below_alloc w (.cells #[.slice A ps.length c] 29))
  clear hx hk
  unfold bgSize
  by_cases hok : BgOk ps
  · rw [PP_yes hok] at C ⊢
    rw [if_pos rfl]
    have hl := hok.1
    have HOK := Lib.hid hok
    clear hok
    go_enter Try.func18, Try.ntmps18
    go_wp2_with fail
    refine C.out.mono ?_
    rintro e w1 ⟨rfl, k1⟩
    have P1 := Lib.hid (blk_below k1 P0.out)
    have hB1 := below_step B0.out k1
    have b0 := blk_cell (o := 0) P1.out rfl
    clear P0 B0 k1 C
    go_wp2
    clear b0
    go_loopw [3, 12] (fun v i wr => ∃ (k : Nat) (z : Int), k ≤ ps.length ∧ i = .int .i64 k ∧ v = .int .i64 z ∧ 0 ≤ z ∧ z ≤ 1000000 * k ∧ Hid (z = sumT (ps.take k)) ∧ Below w.heap.size w wr) (fun _ i _ => ps.length - (intOf i).toNat)
    case atStart => exact ⟨0, 0, Nat.zero_le _, rfl, rfl, by omega, by omega, Lib.hid rfl, hB1⟩
    case round =>
      obtain ⟨k, z, hk, rfl, rfl, hz0, hz1, HZ, hb⟩ := hrel
      by_cases hlt : k < ps.length
      · obtain ⟨b, o, Kk, ck, rfl, c0, c1, _⟩ := (RdB.keep HX.out hb).at_ hlt
        have hit := (HOK.out.it (List.getElem_mem hlt)).2
        have hnx := sumT_next hlt
        obtain ⟨x, hxx⟩ : ∃ x, ps[k] = x := ⟨_, rfl⟩
        rw [hxx] at c0 c1 hit hnx
        rw [← HZ.out] at hnx
        have HN := Lib.hid hnx
        obtain ⟨ht0, ht1⟩ := hit
        have k0 : (0 : Int) ≤ (k : Int) := by omega
        have k1 : (k : Int) < (ps.length : Int) := by omega
        clear hxx hnx
        go_wp2
        go_roundw
        case rel => exact ⟨k + 1, z + x.t, by omega, by go_num, rfl, by omega, by omega, Lib.hid HN.out.symm, hb.alloc hb.size _⟩
        case measure => simp [intOf]; omega
      · obtain rfl : k = ps.length := by omega
        have hz := HZ.out
        rw [List.take_of_length_le (Nat.le_refl _)] at hz
        have HF := Lib.hid hz
        clear hz
        rcases (by omega : z ≤ 1000000 ∨ 1000000 < z) with hm | hm
        all_goals
          go_wp2
          go_ret
          exact ⟨val_i64 (by rw [← HF.out]; omega), hb⟩
  · rw [PP_no hok] at C ⊢
    rw [if_neg (by simp)]
    clear hok P0
    go_enter Try.func18, Try.ntmps18
    go_wp2_with fail
    refine C.out.mono ?_
    rintro e w1 ⟨rfl, k1⟩
    go_wp2
    go_ret
    exact ⟨rfl, below_step B0.out k1⟩

set_option maxRecDepth 100000 in
set_option maxHeartbeats 1600000 in
theorem spec_BagSize_any (A : Option Addr) (c : Nat) (ps : List It) (w : World) (hx : RdB w A ps) (hn : ps.length ≤ 4294967296) (hk : ∀ p ∈ ps, p.r.length ≤ 4294967296) :
    Calls Try.prog 17 #[.agg #[.slice A ps.length c]] w fun e w' => e = .returned (.int .i64 (bgSize ps)) ∧ Below w.heap.size w w' := by
  have HX := Lib.hid hx
  have C := Lib.hid (spec_BagOk_any A c ps (w.alloc (.cells #[.slice A ps.length c] 29)) (hx.alloc _) hn hk)
  have P0 := Lib.hid (heap_alloc_new w (.cells #[.slice A ps.length c] 29))
  have B0 := Lib.hid (below_alloc w (.cells #[.slice A ps.length c] 29))
  clear hx hk
  unfold bgSize
  by_cases hok : BgOk ps
  · rw [PP_yes hok] at C ⊢
    rw [if_pos rfl]
    have HOK := Lib.hid hok
    have hl := hok.1
    clear hok
    go_enter Try.func17, Try.ntmps17
    go_wp2_with fail
    refine C.out.mono ?_
    rintro e w1 ⟨rfl, k1⟩
    have P1 := Lib.hid (blk_below k1 P0.out)
    have hB1 := below_step B0.out k1
    have b0 := blk_cell (o := 0) P1.out rfl
    clear P0 B0 k1 C
    go_wp2
    go_loop [3, 4] (fun v i => ∃ (k : Nat) (z : Int), k ≤ ps.length ∧ i = .int .i64 k ∧ v = .int .i64 z ∧ 0 ≤ z ∧ z ≤ 1000000 ∧ Hid (z = min (sumT (ps.take k)) 1000000)) (fun _ i => ps.length - (intOf i).toNat)
    case atStart => exact ⟨0, 0, Nat.zero_le _, rfl, rfl, by omega, by omega, Lib.hid (by rw [List.take_zero]; rfl)⟩
    case round =>
      obtain ⟨k, z, hk, rfl, rfl, hz0, hz1, HZ⟩ := hrel
      by_cases hlt : k < ps.length
      · obtain ⟨b, o, Kk, ck, rfl, c0, c1, _⟩ := (RdB.keep HX.out hB1).at_ hlt
        have hit := (HOK.out.it (List.getElem_mem hlt)).2
        have hnx := sumT_next hlt
        obtain ⟨x, hxx⟩ : ∃ x, ps[k] = x := ⟨_, rfl⟩
        rw [hxx] at c0 c1 hit hnx
        have HN := Lib.hid hnx
        obtain ⟨ht0, ht1⟩ := hit
        have k0 : (0 : Int) ≤ (k : Int) := by omega
        have k1 : (k : Int) < (ps.length : Int) := by omega
        clear hxx hnx
        by_cases hbig : 1000000 < z + x.t
        · go_wp2
          go_round
          case rel => exact ⟨k + 1, 1000000, by omega, by go_num, rfl, by omega, by omega, Lib.hid (by have h1 := HN.out; have h2 := HZ.out; omega)⟩
          case measure => simp [intOf]; omega
        · go_wp2
          go_round
          case rel => exact ⟨k + 1, z + x.t, by omega, by go_num, rfl, by omega, by omega, Lib.hid (by have h1 := HN.out; have h2 := HZ.out; omega)⟩
          case measure => simp [intOf]; omega
      · obtain rfl : k = ps.length := by omega
        have hz := HZ.out
        rw [List.take_of_length_le (Nat.le_refl _)] at hz
        have HF := Lib.hid hz
        clear hz
        go_wp2
        go_ret
        exact ⟨val_i64 HF.out, hB1⟩
  · rw [PP_no hok] at C ⊢
    rw [if_neg (by simp)]
    clear hok P0
    go_enter Try.func17, Try.ntmps17
    go_wp2_with fail
    refine C.out.mono ?_
    rintro e w1 ⟨rfl, k1⟩
    go_wp2
    go_ret
    exact ⟨rfl, below_step B0.out k1⟩
end Go.Proofs.Ytdikkfhdogkniaa
