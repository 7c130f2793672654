/- FnOwners: each vertex of a drawn graph is owned by just one; what all own is all. No conditions. -/
import Derived.Test.YtnhanakeijplcaaLOwned
import Derived.Test.YtnhanakeijplcaaDrawH
import Derived.Test.YtnhanakeijplcaaDrawn
import Derived.Test.YtnhanakeijplcaaBig
import Derived.Test.YtnhanakeijplcaaBelowQ
namespace Go.Proofs.Ytnhanakeijplcaa
open Go.RowKit

theorem owner_bd {v n : Int} (h1 : 1 ≤ n) (h2 : n ≤ 8) (h3 : 0 ≤ v) (h4 : v ≤ 11) : 0 ≤ owner v n ∧ owner v n < n := by
  unfold owner
  rw [if_pos ⟨h1, h2, h3, h4⟩]
  exact ⟨Int.emod_nonneg _ (by omega), Int.emod_lt_of_pos _ (by omega)⟩
theorem owner_one : owner 3 1 = 0 := by
  unfold owner
  rw [if_pos ⟨by omega, by omega, by omega, by omega⟩]
  exact Int.emod_one _
theorem ownedTo_mem (wk n : Int) : ∀ (k : Nat) (z : Int), z ∈ ownedTo wk n k → 0 ≤ z ∧ z < k ∧ owner z n = wk
  | 0, z, h => by simp [ownedTo] at h
  | k + 1, z, h => by
    unfold ownedTo at h
    rcases List.mem_append.1 h with h | h
    · have := ownedTo_mem wk n k z h
      exact ⟨this.1, by omega, this.2.2⟩
    · split at h
      · rename_i h1
        simp at h
        subst h
        exact ⟨by omega, by omega, h1⟩
      · simp at h
theorem ownedTo_asc (wk n : Int) : ∀ k : Nat, (ownedTo wk n k).Pairwise (· < ·)
  | 0 => by simp [ownedTo]
  | k + 1 => by
    unfold ownedTo
    rw [List.pairwise_append]
    refine ⟨ownedTo_asc wk n k, ?_, ?_⟩
    · split <;> simp
    · intro a ha b hb
      split at hb
      · simp at hb
        subst hb
        exact (ownedTo_mem wk n k a ha).2.1
      · simp at hb
def cntOwn (n : Int) (k : Nat) : Nat → Nat
  | 0 => 0
  | w + 1 => cntOwn n k w + (ownedTo w n k).length
theorem cntOwn_next (n : Int) (k : Nat) : ∀ w : Nat, cntOwn n (k + 1) w = cntOwn n k w + (if 0 ≤ owner k n ∧ owner k n < w then 1 else 0)
  | 0 => by
    simp only [cntOwn]
    rw [if_neg (by omega)]
  | w + 1 => by
    simp only [cntOwn]
    rw [cntOwn_next n k w, ownedTo, List.length_append]
    by_cases h : owner k n = w
    · rw [if_pos h, if_neg (by omega), if_pos (by omega)]
      simp
      omega
    · rw [if_neg h]
      by_cases h2 : 0 ≤ owner k n ∧ owner k n < w
      · rw [if_pos h2, if_pos (by omega)]
        simp
        omega
      · rw [if_neg h2, if_neg (by omega)]
        simp
theorem cntOwn_all {n : Nat} (h1 : 1 ≤ n) (h2 : n ≤ 8) : ∀ k : Nat, k ≤ 12 → cntOwn n k n = k
  | 0, _ => by
    have : ∀ w, cntOwn n 0 w = 0 := by
      intro w
      induction w with
      | zero => rfl
      | succ w ih => simp [cntOwn, ih, ownedTo]
    exact this n
  | k + 1, h => by
    rw [cntOwn_next, cntOwn_all h1 h2 k (by omega)]
    have := owner_bd (v := k) (n := n) (by omega) (by omega) (by omega) (by omega)
    rw [if_pos this]
theorem cntOwn_le (n : Int) (k : Nat) : ∀ w, cntOwn n k w ≤ k * w
  | 0 => by simp [cntOwn]
  | w + 1 => by
    have h1 := cntOwn_le n k w
    have h2 := ownedTo_len w n k
    simp only [cntOwn]
    rw [Nat.mul_add]
    omega
theorem gd_mem {zs : List Int} {j : Nat} (h : j < zs.length) : zs.getD j 0 ∈ zs := by
  simp [List.getD, List.getElem?_eq_getElem h]
theorem gd_asc {zs : List Int} (h : zs.Pairwise (· < ·)) {j : Nat} (hj : j + 1 < zs.length) : zs.getD j 0 < zs.getD (j + 1) 0 := by
  rw [List.pairwise_iff_getElem] at h
  have := h j (j + 1) (by omega) hj (by omega)
  simpa [List.getD, List.getElem?_eq_getElem hj, List.getElem?_eq_getElem (show j < zs.length by omega)] using this

set_option maxRecDepth 100000 in
set_option maxHeartbeats 6400000 in
theorem FnOwners_walk (w : World) (v0 : Value) (cs : List Int) (h0 : SlK w .u8 v0 cs) :
    Calls Try.prog 14 #[v0] w fun e w' => e = .returned (.bool true) ∧ Below w.heap.size w w' := by
  obtain ⟨A, n, c, rfl, hn, hcode⟩ := code0_of h0
  clear h0
  by_cases hbig : 1048576 < n
  · have B := Lib.hid (big_any A n c w hn)
    rw [show decide (1048576 < n) = true by simp; omega] at B
    clear hcode
    go_enter Try.func14, Try.ntmps14
    go_wp2_with fail
    refine B.out.mono ?_
    rintro e w1 ⟨rfl, rfl⟩
    go_wp2
    go_ret
    exact ⟨rfl, Below.refl _ _⟩
  · have B := Lib.hid (big_any A n c w hn)
    rw [show decide (1048576 < n) = false by simp; omega] at B
    have hc := hcode (by omega)
    clear hcode
    have HC := Lib.hid hc
    clear hc
    go_enter Try.func14, Try.ntmps14
    go_wp2_with fail
    refine B.out.mono ?_
    rintro e w1 ⟨rfl, rfl⟩
    clear B
    go_wp2_with fail
    refine (DrawGraph_any A n c cs _ HC.out).mono ?_
    rintro e w1 ⟨s, A1, c1, es, rfl, hok, hl1, hl10, own1, k1⟩
    obtain ⟨sn, rfl⟩ : ∃ sn : Nat, s = sn := ⟨s.toNat, by have := hok.1.1; omega⟩
    have hs1 : 1 ≤ sn := by have := hok.1.1; omega
    have hs2 : sn ≤ 12 := by have := hok.1.2; omega
    have HOK := Lib.hid hok
    clear hok
    have ka := below_alloc w1 (.cells #[.int .i64 sn, .slice A1 es.length c1] 26)
    have Q1 := Lib.hid (heap_alloc_new w1 (.cells #[.int .i64 sn, .slice A1 es.length c1] 26))
    have R1 := Lib.hid ((RdE.own own1).below ka)
    have B1 := Lib.hid (below_step k1 ka)
    have HC1 := Lib.hid (HC.out.keep B1.out)
    obtain ⟨q, hq⟩ : ∃ q, w1.heap.size = q := ⟨_, rfl⟩
    rw [hq] at Q1
    clear own1 k1 ka
    go_wp2_with fail
    refine (DrawPlaces_any A n c cs _ HC1.out).mono ?_
    clear hq
    rintro e w2 ⟨P, pc, ps, rfl, hps, hpb, hpr, k2⟩
    have Q2 := Lib.hid (blk_below k2 Q1.out)
    have R2 := Lib.hid (R1.out.below k2)
    have B2 := Lib.hid (below_step B1.out k2)
    have HC2 := Lib.hid (HC.out.keep B2.out)
    clear Q1 R1 B1 HC1 k2
    obtain ⟨ad, rfl, hp0⟩ := hpr.at_ (show 0 < 12 by omega)
    have hp := hpb (ps.getD 0 0) (gd_mem (by omega))
    obtain ⟨p0, hp0'⟩ : ∃ p, ps.getD 0 0 = p := ⟨_, rfl⟩
    rw [hp0'] at hp hp0
    clear hp0' hpr hpb
    obtain ⟨hpa, hpb⟩ := hp
    have hadd : ad.add 0 = ad := by unfold Addr.add; simp
    rw [hadd] at hp0
    clear hadd
    obtain ⟨nn, hnn⟩ : ∃ nn : Nat, 1 + p0 % 8 = nn := ⟨(1 + p0 % 8).toNat, by omega⟩
    have hn1 : 1 ≤ nn := by omega
    have hn8 : nn ≤ 8 := by omega
    have OW := Lib.hid (fun (k : Nat) w hx => impl_Owned_any sn A1 c1 es k nn w hx (by omega) (gOk_lab HOK.out))
    unfold ownedL at OW
    rw [PP_yes HOK.out] at OW
    simp only [if_true, Int.toNat_natCast] at OW
    go_wp2_with fail
    clear hp0 hnn
    go_loopw [5, 6] (fun v i wr => ∃ (k : Nat), k ≤ nn ∧ i = .int .i64 k ∧ v = .int .i64 (cntOwn nn sn k : Nat) ∧ Below w2.heap.size w2 wr) (fun _ i _ => nn - (intOf i).toNat)
    case atStart => exact ⟨0, Nat.zero_le _, rfl, rfl, Below.refl _ _⟩
    case round =>
      obtain ⟨k, hk, rfl, rfl, hb⟩ := hrel
      have hcl : cntOwn nn sn k ≤ 96 := by
        have h1 := cntOwn_le nn sn k
        have h2 : sn * k ≤ 12 * 8 := Nat.mul_le_mul hs2 (by omega)
        omega
      by_cases hlt : k < nn
      · have b0 := held_step hb (blk_cell (o := 0) Q2.out rfl)
        have b1 := held_step hb (blk_cell (o := 1) Q2.out rfl)
        go_wp2_with fail
        refine (OW.out k _ (R2.out.below hb)).mono ?_
        clear b0 b1
        have hmem := ownedTo_mem k nn sn
        have hasc := ownedTo_asc k nn sn
        have hlen := ownedTo_len k nn sn
        have hnx : cntOwn nn sn (k + 1) = cntOwn nn sn k + (ownedTo k nn sn).length := rfl
        obtain ⟨zs, hzs⟩ : ∃ zs, ownedTo k nn sn = zs := ⟨_, rfl⟩
        rw [hzs] at hmem hasc hlen hnx
        rw [hzs]
        have HM := Lib.hid hmem
        have HA := Lib.hid hasc
        have HN := Lib.hid hnx
        clear hmem hasc hnx hzs
        rintro e w3 ⟨L, lc, rfl, own3, k3⟩
        have I3 := Lib.hid (RdI.own own3)
        have hb3 := below_step hb k3
        clear own3 k3 hb
        go_wp2
        go_loopw [8] (fun i wr => ∃ (j : Nat), j ≤ zs.length ∧ i = .int .i64 j ∧ Below w3.heap.size w3 wr) (fun i _ => zs.length - (intOf i).toNat)
        case atStart => exact ⟨0, Nat.zero_le _, rfl, Below.refl _ _⟩
        case round =>
          obtain ⟨j, hj, rfl, hb4⟩ := hrel
          by_cases hjl : j < zs.length
          · obtain ⟨ad2, rfl, hc0⟩ := (I3.out.below hb4).at_ hjl
            have hm := HM.out _ (gd_mem hjl)
            obtain ⟨z, hz⟩ : ∃ z, zs.getD j 0 = z := ⟨_, rfl⟩
            rw [hz] at hc0 hm
            have HZ := Lib.hid hz
            clear hz
            have T := Lib.hid (fun w => impl_OwnerOf_any z nn w)
            rw [hm.2.2] at T
            have hkk : ((k : Int) != (k : Int)) = false := by simp
            have j0 : (0 : Int) ≤ (j : Int) := by omega
            have j1 : (j : Int) < (zs.length : Int) := by omega
            clear hm
            have q0 := Lib.hid (fun p => cellQ hc0 p)
            clear hc0
            rcases (by omega : j ≤ 0 ∨ 0 < j) with hj0 | hjp
            · have d0 : decide ((0 : Int) < (j : Int)) = false := by simp; omega
              have d1 : decide (0 < j) = false := by simp; omega
              have q0 := q0.out
              go_wp2_with fail
              refine wp_region_below (by kernel_rfl) (by kernel_rfl) ?_
              repeat (first
                | go_big_quiet_step ((go_at_call 49; exact Calls.below_of (T.out _)))
                | quiet_step ((go_at_call 49; exact Calls.below_of (T.out _))))
              refine wpQuiet_nil ?_
              intro _ hw'
              obtain ⟨⟨w5, kk⟩, hw''⟩ := hw'
              subst hw''
              have hb5 := below_step hb4 kk
              clear d0 d1 q0
              go_wp2
              go_roundw
              case rel => exact ⟨j + 1, by omega, by go_num, hb5⟩
              case measure => simp [intOf]; omega
            · obtain ⟨m, hm⟩ : ∃ m, j = m + 1 := ⟨j - 1, by omega⟩
              obtain ⟨ad3, had3, hc1⟩ := (I3.out.below hb4).at_ (show m < zs.length by omega)
              injection had3 with had3
              subst had3
              have hlt2 := gd_asc HA.out (show m + 1 < zs.length by omega)
              rw [← hm, HZ.out] at hlt2
              obtain ⟨y, hy⟩ : ∃ y, zs.getD m 0 = y := ⟨_, rfl⟩
              rw [hy] at hc1 hlt2
              clear hy
              have q1 := fun p => cellQ hc1 p
              have q0 := q0.out
              have e0 : decide (z ≤ y) = false := decide_eq_false (by omega)
              have d0 : decide ((0 : Int) < (j : Int)) = true := decide_eq_true (by omega)
              have d1 : decide (0 < j) = true := decide_eq_true (by omega)
              have d2 : (j : Int) - 1 = (m : Int) := by omega
              have d4 : (0 : Int) ≤ (m : Int) := by omega
              have d5 : (m : Int) < (zs.length : Int) := by omega
              have d6 : IntKind.i64.wrap ((j : Int) - 1) = (m : Int) := by rw [d2]; exact IntWalk.i64_in _ (by omega)
              have d7 : IntKind.i64.wrap (m : Int) = (m : Int) := IntWalk.i64_in _ (by omega)
              have HM := Lib.hid hm
              clear hc1 hlt2 hm
              go_wp2_with fail
              refine wp_region_below (by kernel_rfl) (by kernel_rfl) ?_
              repeat (first
                | go_big_quiet_step ((go_at_call 49; exact Calls.below_of (T.out _)))
                | quiet_step ((go_at_call 49; exact Calls.below_of (T.out _))))
              refine wpQuiet_nil ?_
              intro _ hw'
              obtain ⟨⟨w5, kk⟩, hw''⟩ := hw'
              subst hw''
              have hb5 := below_step hb4 kk
              clear d0 d1 d2 d6 d7 e0 q0 q1
              go_wp2
              go_roundw
              case rel => exact ⟨j + 1, by omega, by go_num, hb5⟩
              case measure => simp [intOf]; omega
          · obtain rfl : j = zs.length := by omega
            have hb5 := below_step hb3 hb4
            go_wp2
            go_roundw
            case rel =>
              refine ⟨k + 1, by omega, by go_num, ?_, hb5⟩
              rw [HN.out]
              go_num
            case measure => simp [intOf]; omega
      · obtain rfl : k = nn := by omega
        have hall : cntOwn k sn k = sn := cntOwn_all hn1 hn8 sn hs2
        rw [hall]
        clear hall hcl
        have Q3 := Lib.hid (blk_below hb Q2.out)
        have B3 := Lib.hid (below_step B2.out hb)
        clear hb
        go_wp2_with fail
        refine (DrawOwnerOf_any A n c cs _ (HC.out.keep B3.out)).mono ?_
        rintro e w4 ⟨a, b, rfl, k4⟩
        have Q4 := Lib.hid (blk_below k4 Q3.out)
        have B4 := Lib.hid (below_step B3.out k4)
        have b0 := blk_cell (o := 0) Q4.out rfl
        have t0 : ((sn : Int) == (sn : Int)) = true := by simp
        have t1 : (owner a b == owner a b) = true := by simp
        have I1 := Lib.hid (fun w => impl_OwnerOf_any a b w)
        have I2 := Lib.hid (fun w => spec_OwnerOf_any a b w)
        have I3 := Lib.hid (fun w => impl_OwnerOf_any 3 1 w)
        rw [owner_one] at I3
        obtain ⟨o, ho⟩ : ∃ o, owner a b = o := ⟨_, rfl⟩
        rw [ho] at I1 I2 t1
        clear k4 Q3 B3 ho
        go_wp2_with fail
        refine (I1.out _).mono ?_
        rintro e w5 ⟨rfl, k5⟩
        go_wp2_with fail
        refine (I2.out _).mono ?_
        rintro e w6 ⟨rfl, k6⟩
        go_wp2_with fail
        refine (I3.out _).mono ?_
        rintro e w7 ⟨rfl, k7⟩
        go_wp2
        go_ret
        exact ⟨rfl, below_step (below_step (below_step B4.out k5) k6) k7⟩
end Go.Proofs.Ytnhanakeijplcaa
