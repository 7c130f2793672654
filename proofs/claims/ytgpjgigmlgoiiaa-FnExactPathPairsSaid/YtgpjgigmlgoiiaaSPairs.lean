/- spec.PathPairs: the list of ppL. Conditions: the lengths, the labels in their range. -/
import Derived.Test.YtgpjgigmlgoiiaaPairs
namespace Go.Proofs.Ytgpjgigmlgoiiaa
open Go.RowKit
set_option maxRecDepth 100000 in

set_option maxHeartbeats 3200000 in
theorem spec_PathPairs_any (s : Int) (Ag A : Option Addr) (cg c : Nat) (es : List Ed) (ps : List Pc) (w : World) (he : RdE w Ag es) (hel : es.length ≤ 1048576) (hl : ∀ e ∈ es, 0 ≤ e.l ∧ e.l ≤ 255) (hx : RdP w A ps) (hpl : ps.length ≤ 1048576) (hkl : ∀ p ∈ ps, p.k.length ≤ 4294967296) :
    Calls Try.prog 38 #[.agg #[.int .i64 s, .slice Ag es.length cg], .agg #[.slice A ps.length c]] w (MadeSS w (ppL s es ps)) := by
  obtain ⟨i0, hi, hz0, hz1, hz2⟩ := info_parts Try.infoIntS
  have ka := below_alloc w (.cells #[.int .i64 s, .slice Ag es.length cg] 45)
  have p0 := heap_alloc_new w (.cells #[.int .i64 s, .slice Ag es.length cg] 45)
  obtain ⟨W1, hW1⟩ : ∃ W, w.alloc (.cells #[.int .i64 s, .slice Ag es.length cg] 45) = W := ⟨_, rfl⟩
  obtain ⟨g0, hg0⟩ : ∃ g, w.heap.size = g := ⟨_, rfl⟩
  rw [hW1] at p0 ka
  rw [hg0] at p0
  have kb := below_alloc W1 (.cells #[.slice A ps.length c] 59)
  have p1 := heap_alloc_new W1 (.cells #[.slice A ps.length c] 59)
  have p02 := blk_below kb p0
  have hb2 := below_step ka kb
  have he2 := (he.below ka).below kb
  have hx2 := (hx.keep ka).keep kb
  obtain ⟨W2, hW2⟩ : ∃ W, W1.alloc (.cells #[.slice A ps.length c] 59) = W := ⟨_, rfl⟩
  obtain ⟨g1, hg1⟩ : ∃ g, W1.heap.size = g := ⟨_, rfl⟩
  rw [hW2] at p1 p02 hb2 he2 hx2
  rw [hg1] at p1
  have P0 := Lib.hid p02
  have P1 := Lib.hid p1
  have HB2 := Lib.hid hb2
  have HE := Lib.hid he2
  have HX := Lib.hid hx2
  have HK := Lib.hid hkl
  have k2 := below_alloc W2 (.cells #[] 63)
  have hown0 : (W2.alloc (.cells #[] 63)).ownsRow W2.heap.size 63 1 (.slice (some ⟨W2.heap.size, 0, none⟩) 0 0) 0 [] := World.ownsRow_made W2 #[] 0 (Nat.le_refl _) (by unfold maxLen; omega) rfl
  obtain ⟨W3, hW3⟩ : ∃ W, W2.alloc (.cells #[] 63) = W := ⟨_, rfl⟩
  obtain ⟨B, hB⟩ : ∃ B, W2.heap.size = B := ⟨_, rfl⟩
  have EB := Lib.hid hB
  rw [hW3] at k2 hown0
  rw [hB] at hown0
  have K2 := Lib.hid k2
  have O0 := Lib.hid (show PrI B (.slice (some ⟨B, 0, none⟩) 0 0) [] [] W3 from ⟨rfl, hown0, by simp, List.Pairwise.nil⟩)
  have b00 := blk_cell (o := 0) (blk_below k2 p02) rfl
  have b01 := blk_cell (o := 1) (blk_below k2 p02) rfl
  have b10 := blk_cell (o := 0) (blk_below k2 p1) rfl
  have GO := Lib.hid (spec_GraphOk_any s Ag cg es W3 (he2.below k2) (by omega) hl)
  have PO := Lib.hid (fun W (h : Below W2.heap.size W2 W) => spec_PathOk_any A c ps W (hx2.keep h) (by omega) hkl)
  have HNO := Lib.hid (fun (h : ¬ (GOk s es ∧ PaOk ps)) => ppL_no h)
  have HL := Lib.hid hl
  clear he hl hx hkl ka kb p0 p1 p02 hb2 he2 hx2 k2 hown0
  go_enter Try.func38, Try.ntmps38
  go_wp2_with fail
  clear hW1 hW2 hg0 hg1 hW3 hB
  refine GO.out.mono ?_
  by_cases hgo : GOk s es
  · rw [PP_yes hgo]
    rintro e w3 ⟨rfl, k3'⟩
    have k3 := below_step K2.out k3'
    have o3 := O0.out.keep k3'
    clear k3'
    have b00 := blk_cell (o := 0) (blk_below k3 P0.out) rfl
    have b01 := blk_cell (o := 1) (blk_below k3 P0.out) rfl
    have b10 := blk_cell (o := 0) (blk_below k3 P1.out) rfl
    go_wp2_with fail
    refine (PO.out w3 k3).mono ?_
    by_cases hpo : PaOk ps
    · rw [PP_yes hpo]
      rintro e w5 ⟨rfl, k4⟩
      have k35 := below_step k3 k4
      have b00 := blk_cell (o := 0) (blk_below k35 P0.out) rfl
      have b01 := blk_cell (o := 1) (blk_below k35 P0.out) rfl
      have b10 := blk_cell (o := 0) (blk_below k35 P1.out) rfl
      have HGO := Lib.hid hgo
      have HPO := Lib.hid hpo
      have h12 := hgo.1
      obtain ⟨n, rfl⟩ : ∃ n : Nat, s = n := ⟨s.toNat, by omega⟩
      have hn12 : n ≤ 12 := by omega
      have HPL := Lib.hid (ppL_yes hgo hpo)
      have K35 := Lib.hid k35
      have P5 := Lib.hid (o3.keep k4)
      obtain ⟨R, hR⟩ : ∃ R, meanG n es ps = R := ⟨_, rfl⟩
      have HR := Lib.hid hR
      have PE := Lib.hid (fun (f : Nat) (hf : f < n) (W : World) (h : Below W2.heap.size W2 W) => spec_PathEnds_any n Ag A cg c es ps f W (HE.out.below h) hel HL.out (HX.out.keep h) hpl HK.out)
      clear k3 k4 hgo hpo h12 k35 o3 hR
      go_wp2_with fail
      clear b00 b01 b10
      go_loopw [5, 6] (fun v i wr => ∃ (k : Nat) (xs : List IrX), k ≤ n ∧ i = .int .i64 k ∧ PrI B v (ppTo R n k) xs wr ∧ Below B W2 wr) (fun _ i _ => n - (intOf i).toNat)
      case atStart => exact ⟨0, [], Nat.zero_le _, rfl, P5.out, by have := K35.out; rw [EB.out] at this; exact this⟩
      case round =>
        obtain ⟨k, xs, hk, rfl, hp, hb⟩ := hrel
        obtain ⟨wo, rfl⟩ : ∃ wo : World, wo = wr := ⟨_, rfl⟩
        have HP := Lib.hid hp
        have HB := Lib.hid hb
        have b00 := blk_cell (o := 0) (blk_below (show Below W2.heap.size W2 wo by rw [EB.out]; exact hb) P0.out) rfl
        have b01 := blk_cell (o := 1) (blk_below (show Below W2.heap.size W2 wo by rw [EB.out]; exact hb) P0.out) rfl
        have b10 := blk_cell (o := 0) (blk_below (show Below W2.heap.size W2 wo by rw [EB.out]; exact hb) P1.out) rfl
        by_cases hlt : k < n
        · have hb' : Below W2.heap.size W2 wo := by rw [EB.out]; exact hb
          have hel2 := endsTo_len R k n
          have HSC := Lib.hid (ppTo_succ R n k)
          have hpl3 := ppTo_len R n k
          have hkn : k * n ≤ 12 * 12 := Nat.mul_le_mul (by omega) hn12
          obtain ⟨rk, hrk⟩ : ∃ rk, ppTo R n k = rk := ⟨_, rfl⟩
          rw [hrk] at HP HSC hpl3
          have k0 : (0 : Int) ≤ (k : Int) := by omega
          have k1 : (k : Int) < (n : Int) := by omega
          have C := Lib.hid (PE.out k hlt wo hb')
          rw [peL_yes HGO.out HPO.out hlt, HR.out] at C
          obtain ⟨zs, hzs⟩ : ∃ zs, endsTo R k n = zs := ⟨_, rfl⟩
          rw [hzs] at hel2 HSC C
          clear hrk hp hb hb' hzs
          go_wp2_with fail
          refine C.out.mono ?_
          rintro e w7 ⟨A7, c7, rfl, h7, k7⟩
          have O7 := Lib.hid (own_mono h7 (show B ≤ wo.heap.size by have := HB.out.size; have := EB.out; omega))
          have P7 := Lib.hid (HP.out.keep k7)
          have K7 := Lib.hid (HB.out.trans (k7.mono (show B ≤ wo.heap.size by have := HB.out.size; have := EB.out; omega)))
          clear h7 k7 b00 b01 b10
          go_wp2_with fail
          go_loopw [5, 8] (fun v i wr => ∃ (j : Nat) (xs : List IrX), j ≤ zs.length ∧ i = .int .i64 j ∧ PrI B v (rk ++ prs k (zs.take j)) xs wr ∧ wr.ownsRow B 3 1 (.slice A7 zs.length c7) zs.length (zs.map (Value.int .i64)) ∧ Below B W2 wr) (fun _ i _ => zs.length - (intOf i).toNat)
          case atStart => exact ⟨0, xs, Nat.zero_le _, rfl, by simpa [prs] using P7.out, O7.out, K7.out⟩
          case round =>
            clear P7 O7 K7 HP HB
            obtain ⟨j, xs, hj, rfl, hp, ho, hb⟩ := hrel
            obtain ⟨wq, rfl⟩ : ∃ wq : World, wq = wr := ⟨_, rfl⟩
            have HP := Lib.hid hp
            have HB := Lib.hid hb
            have HO := Lib.hid ho
            by_cases hjl : j < zs.length
            · obtain ⟨ad2, rfl, z1⟩ := RdI.at_ (show RdI wq A7 zs.length zs from Rd.of_own ho) hjl
              have HTK := Lib.hid (prs_take k zs j hjl)
              obtain ⟨z, hzz⟩ : ∃ z, zs.getD j 0 = z := ⟨_, rfl⟩
              rw [hzz] at z1 HTK
              have hxl := hp.xlen
              have hrl : (rk ++ prs k (zs.take j)).length ≤ 12 * 12 + 12 := by
                rw [List.length_append, prs_len, List.length_take]; omega
              obtain ⟨rj, hrj⟩ : ∃ rj, rk ++ prs k (zs.take j) = rj := ⟨_, rfl⟩
              rw [hrj] at HP hrl
              have HRJ := Lib.hid hrj
              have hwq : B ≤ wq.heap.size := by have := hb.size; have := EB.out; omega
              have ka := below_alloc wq (.cells #[.int .i64 k, .int .i64 z] 3)
              have pa := HP.out.keep ka
              have oa := own_below ho ka
              have ba := hb.trans (ka.mono (show B ≤ wq.heap.size by have := hb.size; have := EB.out; omega))
              have hza : wq.heap.size < (wq.alloc (.cells #[.int .i64 k, .int .i64 z] 3)).heap.size := by simp
              obtain ⟨gq, hgq⟩ : ∃ g, wq.heap.size = g := ⟨_, rfl⟩
              obtain ⟨Wa, hWa⟩ : ∃ W, wq.alloc (.cells #[.int .i64 k, .int .i64 z] 3) = W := ⟨_, rfl⟩
              rw [hWa] at pa oa ba hza
              rw [hgq] at hza hwq
              have HWA := Lib.hid hWa
              have HGQ := Lib.hid hgq
              have PA := Lib.hid pa
              have OA := Lib.hid oa
              have BA := Lib.hid ba
              have j0 : (0 : Int) ≤ (j : Int) := by omega
              have j1 : (j : Int) < (zs.length : Int) := by omega
              clear hzz hrj hp ho hb ka pa oa ba hxl
              go_wp2_with (first
                | (at_builtin
                   refine wpList_append_any _ rfl (.tmp 35) (.tmp 42) 41 rfl B 63 i0 _ 1 24 Try.underlying41 hi hz0 hz1 hz2 rfl (by decide) _ rj.length (xs.map IrX.v) rfl (own_below PA.out.row (below_alloc _ _)) (some ⟨Wa.heap.size, 0, none⟩) 1 1 [.slice (some ⟨gq, 0, none⟩) 2 2] rfl (Rd.new1 Wa _ _) (by intro u hu; simp at hu; subst hu; rfl) (by unfold maxLen; omega) (by omega) (by have := BA.out.size; have := EB.out; simp; omega) ?_
                   intro v10 w10 hown hg hob
                   have D10 := Lib.hid (HP.out.push (by omega) HWA.out HGQ.out hown hg)
                   have O10 := Lib.hid ((own_below OA.out (below_alloc Wa (.cells #[.slice (some ⟨gq, 0, none⟩) 2 2] 63))).kept hg (own_ne (own_below OA.out (below_alloc Wa (.cells #[.slice (some ⟨gq, 0, none⟩) 2 2] 63))) (own_below PA.out.row (below_alloc Wa (.cells #[.slice (some ⟨gq, 0, none⟩) 2 2] 63))) (by decide)))
                   have B10 := Lib.hid ((BA.out.trans ((below_alloc Wa (.cells #[.slice (some ⟨gq, 0, none⟩) 2 2] 63)).mono (show B ≤ Wa.heap.size by have := BA.out.size; have := EB.out; omega))).grown hg (by have := BA.out.size; have := EB.out; simp; omega) (fun r hr => (PA.out.row.lt r hr).1))))
              clear hWa hgq
              go_roundw
              case rel =>
                refine ⟨j + 1, xs ++ [⟨[(k : Int), z], some ⟨gq, 0, none⟩, 2⟩], by omega, by go_num, ?_, O10.out, B10.out⟩
                rw [HTK.out, ← List.append_assoc, HRJ.out]
                exact D10.out
              case measure => simp [intOf]; omega
            · obtain rfl : j = zs.length := by omega
              rw [List.take_of_length_le (Nat.le_refl _), ← HSC.out] at hp
              have HP2 := Lib.hid hp
              clear hp ho hb
              go_wp2
              go_roundw
              case rel => exact ⟨k + 1, xs, by omega, by go_num, HP2.out, HB.out⟩
              case measure => simp [intOf]; omega
        · obtain rfl : k = n := by omega
          obtain ⟨A9, c9, rfl, _, _⟩ := own_slice hp.row
          clear hp hb
          go_wp2
          go_ret
          rw [HPL.out, HR.out]
          exact ⟨A9, c9, rfl, HP.out.ss.mono (by have := HB2.out.size; have := EB.out; omega), below_step HB2.out (by have := HB.out; rw [← EB.out] at this; exact this)⟩
    · rw [PP_no hpo]
      rintro e w4 ⟨rfl, k4⟩
      have HN := Lib.hid hpo
      have P4 := Lib.hid (o3.keep k4)
      clear hpo o3
      go_wp2
      go_ret
      rw [HNO.out (fun h => HN.out h.2)]
      exact ⟨_, _, rfl, P4.out.ss.mono (by have := HB2.out.size; have := EB.out; omega), below_step HB2.out (below_step k3 k4)⟩
  · rw [PP_no hgo]
    rintro e w3 ⟨rfl, k3⟩
    have HN := Lib.hid hgo
    have P3 := Lib.hid (O0.out.keep k3)
    clear hgo
    go_wp2
    go_ret
    rw [HNO.out (fun h => HN.out h.1)]
    exact ⟨_, _, rfl, P3.out.ss.mono (by have := HB2.out.size; have := EB.out; omega), below_step HB2.out (below_step K2.out k3)⟩
end Go.Proofs.Ytgpjgigmlgoiiaa
