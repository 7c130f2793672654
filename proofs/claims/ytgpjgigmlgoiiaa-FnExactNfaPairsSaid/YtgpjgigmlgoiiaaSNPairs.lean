/- spec.NfaPairs: the list of npL. Conditions: the lengths, the labels in their range. -/
import Derived.Test.YtgpjgigmlgoiiaaNPairs
import Derived.Test.YtgpjgigmlgoiiaaSNfaOk
namespace Go.Proofs.Ytgpjgigmlgoiiaa
open Go.RowKit
set_option maxRecDepth 100000 in

set_option maxHeartbeats 3200000 in
theorem spec_NfaPairs_any (s : Int) (Ag A B : Option Addr) (cg c d : Nat) (es : List Ed) (m : Int) (arcs : List Ed) (bs : List Bool) (w : World) (he : RdE w Ag es) (hel : es.length ≤ 1048576) (hl : ∀ e ∈ es, 0 ≤ e.l ∧ e.l ≤ 255) (hx : RdE w A arcs) (hal : arcs.length ≤ 1048576) (hla : ∀ e ∈ arcs, 0 ≤ e.l ∧ e.l ≤ 255) (hy : RdB w B bs.length bs) (hbl : bs.length ≤ 1048576) :
    Calls Try.prog 19 #[.agg #[.int .i64 s, .slice Ag es.length cg], .agg #[.int .i64 m, .slice A arcs.length c, .slice B bs.length d]] w (MadeSS w (npL s es m arcs bs)) := by
  obtain ⟨i0, hi, hz0, hz1, hz2⟩ := info_parts Try.infoIntS
  have ka := below_alloc w (.cells #[.int .i64 s, .slice Ag es.length cg] 45)
  have p0 := heap_alloc_new w (.cells #[.int .i64 s, .slice Ag es.length cg] 45)
  obtain ⟨W1, hW1⟩ : ∃ W, w.alloc (.cells #[.int .i64 s, .slice Ag es.length cg] 45) = W := ⟨_, rfl⟩
  obtain ⟨g0, hg0⟩ : ∃ g, w.heap.size = g := ⟨_, rfl⟩
  rw [hW1] at p0 ka
  rw [hg0] at p0
  have kb := below_alloc W1 (.cells #[.int .i64 m, .slice A arcs.length c, .slice B bs.length d] 29)
  have p1 := heap_alloc_new W1 (.cells #[.int .i64 m, .slice A arcs.length c, .slice B bs.length d] 29)
  have p02 := blk_below kb p0
  have hb2 := below_step ka kb
  have he2 := (he.below ka).below kb
  have hx2 := (hx.below ka).below kb
  have hy2 := (hy.below ka).below kb
  obtain ⟨W2, hW2⟩ : ∃ W, W1.alloc (.cells #[.int .i64 m, .slice A arcs.length c, .slice B bs.length d] 29) = W := ⟨_, rfl⟩
  obtain ⟨g1, hg1⟩ : ∃ g, W1.heap.size = g := ⟨_, rfl⟩
  rw [hW2] at p1 p02 hb2 he2 hx2 hy2
  rw [hg1] at p1
  have P0 := Lib.hid p02
  have P1 := Lib.hid p1
  have HB2 := Lib.hid hb2
  have HE := Lib.hid he2
  have HX := Lib.hid hx2
  have HY := Lib.hid hy2
  have HLA := Lib.hid hla
  have HL := Lib.hid hl
  have k2 := below_alloc W2 (.cells #[] 63)
  have hown0 : (W2.alloc (.cells #[] 63)).ownsRow W2.heap.size 63 1 (.slice (some ⟨W2.heap.size, 0, none⟩) 0 0) 0 [] := World.ownsRow_made W2 #[] 0 (Nat.le_refl _) (by unfold maxLen; omega) rfl
  obtain ⟨W3, hW3⟩ : ∃ W, W2.alloc (.cells #[] 63) = W := ⟨_, rfl⟩
  obtain ⟨Bq, hB⟩ : ∃ B, W2.heap.size = B := ⟨_, rfl⟩
  have EB := Lib.hid hB
  rw [hW3] at k2 hown0
  rw [hB] at hown0
  have K2 := Lib.hid k2
  have O0 := Lib.hid (show PrI Bq (.slice (some ⟨Bq, 0, none⟩) 0 0) [] [] W3 from ⟨rfl, hown0, by simp, List.Pairwise.nil⟩)
  have b00 := blk_cell (o := 0) (blk_below k2 p02) rfl
  have b01 := blk_cell (o := 1) (blk_below k2 p02) rfl
  have b10 := blk_cell (o := 0) (blk_below k2 p1) rfl
  have b11 := blk_cell (o := 1) (blk_below k2 p1) rfl
  have b12 := blk_cell (o := 2) (blk_below k2 p1) rfl
  have GO := Lib.hid (spec_GraphOk_any s Ag cg es W3 (he2.below k2) (by omega) hl)
  have PO := Lib.hid (fun W (h : Below W2.heap.size W2 W) => spec_NfaOk_any m A B c d arcs bs W (hx2.below h) (by omega) (by omega) hla)
  have HNO := Lib.hid (fun (h : ¬ (GOk s es ∧ NOk m arcs bs)) => npL_no h)
  clear he hl hx hy hla ka kb p0 p1 p02 hb2 he2 hx2 hy2 k2 hown0
  go_enter Try.func19, Try.ntmps19
  go_wp2_with fail
  clear hW1 hW2 hg0 hg1 hW3 hB
  refine GO.out.mono ?_
  by_cases hgo : GOk s es
  · rw [PP_yes hgo]
    rintro e w3 ⟨rfl, k3'⟩
    have k3 := below_step K2.out k3'
    have o3 := O0.out.keep k3'
    clear k3'
    have b00 := blk_cell (o := 0) (blk_below k3 P0.out) rfl
    have b01 := blk_cell (o := 1) (blk_below k3 P0.out) rfl
    have b10 := blk_cell (o := 0) (blk_below k3 P1.out) rfl
    have b11 := blk_cell (o := 1) (blk_below k3 P1.out) rfl
    have b12 := blk_cell (o := 2) (blk_below k3 P1.out) rfl
    go_wp2_with fail
    refine (PO.out w3 k3).mono ?_
    by_cases hpo : NOk m arcs bs
    · rw [PP_yes hpo]
      rintro e w5 ⟨rfl, k4⟩
      have k35 := below_step k3 k4
      have b00 := blk_cell (o := 0) (blk_below k35 P0.out) rfl
      have b01 := blk_cell (o := 1) (blk_below k35 P0.out) rfl
      have b10 := blk_cell (o := 0) (blk_below k35 P1.out) rfl
      have b11 := blk_cell (o := 1) (blk_below k35 P1.out) rfl
      have b12 := blk_cell (o := 2) (blk_below k35 P1.out) rfl
      have HGO := Lib.hid hgo
      have HPO := Lib.hid hpo
      have h12 := hgo.1
      obtain ⟨n, rfl⟩ : ∃ n : Nat, s = n := ⟨s.toNat, by omega⟩
      have hn12 : n ≤ 12 := by omega
      have HPL := Lib.hid (npL_yes hgo hpo)
      have hnm := hpo.2.1
      have hnm1 := hpo.1
      obtain ⟨R, hR⟩ : ∃ R, acR es arcs bs = R := ⟨_, rfl⟩
      have HR := Lib.hid hR
      have hm0 : 0 ≤ m := by omega
      obtain ⟨mm, rfl⟩ : ∃ mm : Nat, m = mm := ⟨m.toNat, by omega⟩
      have hbm : bs.length = mm := by omega
      have hrng := nOk_rng hpo
      rw [hbm] at hrng
      have HRNG := Lib.hid hrng
      have ST := Lib.hid (fun (f : Nat) (hf : f < n) (W : World) (h : Below W2.heap.size W2 W) => l07Reach_any n mm f Ag A B cg c d es arcs bs W hn12 hf (by omega) (by omega) (HE.out.below h) hel (gOk_er HGO.out) (HX.out.below h) (by omega) HRNG.out (gOk_lb HGO.out))
      have HWR := Lib.hid (fun v (hv : v < n) => show IntKind.i64.wrap ((v : Int) * (mm : Int)) = ((v * mm : Nat) : Int) by
        rw [← Int.natCast_mul]
        have : v * mm ≤ 12 * 24 := Nat.mul_le_mul (by omega) (by omega)
        exact IntWalk.i64_in _ (by omega))
      have HIJ := Lib.hid (fun v s (hv : v < n) (hs : s < mm) => ij_ltm hv hs)
      have hnm12 : n * mm ≤ 12 * 24 := Nat.mul_le_mul hn12 (by omega)
      have HBM := Lib.hid hbm
      have hmm24 : mm ≤ 24 := by omega
      obtain ⟨NN, hNN⟩ : ∃ N, n * mm = N := ⟨_, rfl⟩
      rw [hNN] at ST HIJ hnm12
      have K35 := Lib.hid k35
      have P5 := Lib.hid (o3.keep k4)
      clear k3 k4 hgo hpo h12 k35 hR o3 hrng hnm hnm1 hbm hNN
      go_wp2_with fail
      clear b00 b01 b10 b11 b12
      go_loopw [5, 6] (fun v i wr => ∃ (k : Nat) (xs : List IrX), k ≤ n ∧ i = .int .i64 k ∧ PrI Bq v (ppTo R n k) xs wr ∧ Below Bq W2 wr) (fun _ i _ => n - (intOf i).toNat)
      case atStart => exact ⟨0, [], Nat.zero_le _, rfl, P5.out, by have := K35.out; rw [EB.out] at this; exact this⟩
      case round =>
        obtain ⟨k, xs, hk, rfl, hp, hb⟩ := hrel
        obtain ⟨wo, rfl⟩ : ∃ wo : World, wo = wr := ⟨_, rfl⟩
        have HP := Lib.hid hp
        have HB := Lib.hid hb
        have hb2' : Below W2.heap.size W2 wo := by rw [EB.out]; exact hb
        have b00 := blk_cell (o := 0) (blk_below hb2' P0.out) rfl
        have b01 := blk_cell (o := 1) (blk_below hb2' P0.out) rfl
        have b10 := blk_cell (o := 0) (blk_below hb2' P1.out) rfl
        have b11 := blk_cell (o := 1) (blk_below hb2' P1.out) rfl
        have b12 := blk_cell (o := 2) (blk_below hb2' P1.out) rfl
        by_cases hlt : k < n
        · have hel2 := endsTo_len R k n
          have HSC := Lib.hid (ppTo_succ R n k)
          have hpl3 := ppTo_len R n k
          have hkn : k * n ≤ 12 * 12 := Nat.mul_le_mul (by omega) hn12
          obtain ⟨rk, hrk⟩ : ∃ rk, ppTo R n k = rk := ⟨_, rfl⟩
          rw [hrk] at HP HSC hpl3
          have k0 : (0 : Int) ≤ (k : Int) := by omega
          have k1 : (k : Int) < (n : Int) := by omega
          have C := Lib.hid (ST.out k hlt wo hb2')
          clear hrk hp hb hb2'
          go_wp2_with fail
          refine C.out.mono ?_
          rintro e w7 ⟨A7, c7, seen, rfl, h7, hsl, hrch, k7⟩
          have O7 := Lib.hid (own_mono h7 (show Bq ≤ wo.heap.size by have := HB.out.size; have := EB.out; omega))
          have P7 := Lib.hid (HP.out.keep k7)
          have K7 := Lib.hid (HB.out.trans (k7.mono (show Bq ≤ wo.heap.size by have := HB.out.size; have := EB.out; omega)))
          have HRCH := Lib.hid hrch
          have HSL := Lib.hid hsl
          clear h7 k7 b00 b01 b10 b11 b12 hrch hsl C
          go_wp2_with fail
          go_loopw [5, 8] (fun v i wr => ∃ (j : Nat) (xs : List IrX), j ≤ n ∧ i = .int .i64 j ∧ PrI Bq v (rk ++ prs k (endsTo R k j)) xs wr ∧ wr.ownsRow Bq 4 1 (.slice A7 NN c7) NN (bls seen) ∧ Below Bq W2 wr) (fun _ i _ => n - (intOf i).toNat)
          case atStart => exact ⟨0, xs, Nat.zero_le _, rfl, by simpa [prs, endsTo] using P7.out, O7.out, K7.out⟩
          case round =>
            clear P7 O7 K7 HP HB
            obtain ⟨j, xs, hj, rfl, hp, ho, hb⟩ := hrel
            obtain ⟨wq, rfl⟩ : ∃ wq : World, wq = wr := ⟨_, rfl⟩
            have HP := Lib.hid hp
            have HB := Lib.hid hb
            have HO := Lib.hid ho
            have hb3 : Below W2.heap.size W2 wq := by rw [EB.out]; exact hb
            have HB3 := Lib.hid hb3
            have g00 := blk_cell (o := 0) (blk_below hb3 P0.out) rfl
            by_cases hjl : j < n
            · have HES1 := Lib.hid (endsTo_succ R k j)
              have hwj := HWR.out j hjl
              obtain ⟨jq, hjq⟩ : ∃ q, j * mm = q := ⟨_, rfl⟩
              rw [hjq] at hwj
              have HJQ := Lib.hid hjq
              clear hjq hp ho hb hb3
              go_wp2_with fail
              go_loopw [9, 10] (fun b i wr => ∃ (t : Nat) (bb : Bool), t ≤ mm ∧ i = .int .i64 t ∧ b = .bool bb ∧ Hid (bb = true ↔ ∃ s, s < t ∧ seen.getD (jq + s) false = true ∧ bs.getD s false = true) ∧ Hid (wq = wr)) (fun _ i _ => mm - (intOf i).toNat)
              case atStart => exact ⟨0, false, Nat.zero_le _, rfl, rfl, Lib.hid ⟨(fun h => by cases h), (fun h => by obtain ⟨s, hs, _⟩ := h; omega)⟩, Lib.hid rfl⟩
              case round =>
                obtain ⟨t, bb, ht, rfl, rfl, HT, hw⟩ := hrel
                have hw := hw.out
                subst hw
                have n0 := blk_cell (o := 0) (blk_below HB3.out P1.out) rfl
                have n2 := blk_cell (o := 2) (blk_below HB3.out P1.out) rfl
                by_cases htl : t < mm
                · have hlt3 := HIJ.out j t hjl htl
                  rw [HJQ.out] at hlt3
                  obtain ⟨x1, hx1⟩ : ∃ x, jq + t = x := ⟨_, rfl⟩
                  rw [hx1] at hlt3
                  have wx : IntKind.i64.wrap ((jq : Int) + (t : Int)) = (x1 : Int) := by rw [← hx1]; push_cast; exact IntWalk.i64_in _ (by omega)
                  have x10 : (0 : Int) ≤ (x1 : Int) := by omega
                  have x11 : (x1 : Int) < (NN : Int) := by omega
                  obtain ⟨ad, rfl, z1⟩ := RdB.at_ (show RdB wq A7 NN seen from Rd.of_own HO.out) hlt3
                  obtain ⟨ad2, rfl, z2⟩ := (HY.out.below HB3.out).at_ (show t < bs.length by rw [HBM.out]; exact htl)
                  have t0 : (0 : Int) ≤ (t : Int) := by omega
                  have t1 : (t : Int) < (bs.length : Int) := by rw [HBM.out]; omega
                  obtain ⟨sv, hsv⟩ : ∃ v, seen.getD x1 false = v := ⟨_, rfl⟩
                  obtain ⟨ev, hev⟩ : ∃ v, bs.getD t false = v := ⟨_, rfl⟩
                  rw [hsv] at z1
                  rw [hev] at z2
                  have HN2 : Hid ((bb || (sv && ev)) = true ↔ ∃ s, s < t + 1 ∧ seen.getD (jq + s) false = true ∧ bs.getD s false = true) := Lib.hid (by
                    rw [Bool.or_eq_true, Bool.and_eq_true, HT.out]
                    constructor
                    · rintro (⟨s, h1, h2⟩ | ⟨h1, h2⟩)
                      · exact ⟨s, by omega, h2⟩
                      · exact ⟨t, by omega, by rw [hx1, hsv]; exact h1, by rw [hev]; exact h2⟩
                    · rintro ⟨s, h1, h2, h3⟩
                      by_cases e : s = t
                      · subst e
                        rw [hx1, hsv] at h2
                        rw [hev] at h3
                        exact .inr ⟨h2, h3⟩
                      · exact .inl ⟨s, by omega, h2, h3⟩)
                  clear hsv hev hx1
                  cases bb
                  · cases sv
                    · go_wp2
                      go_roundw
                      case rel => exact ⟨t + 1, false, by omega, by go_num, rfl, by simpa using HN2, Lib.hid (by first | trivial | rfl)⟩
                      case measure => simp [intOf]; omega
                    · go_wp2
                      go_roundw
                      case rel => exact ⟨t + 1, ev, by omega, by go_num, by first | rfl | simp, by simpa using HN2, Lib.hid (by first | trivial | rfl)⟩
                      case measure => simp [intOf]; omega
                  · go_wp2
                    go_roundw
                    case rel => exact ⟨t + 1, true, by omega, by go_num, rfl, by simpa using HN2, Lib.hid (by first | trivial | rfl)⟩
                    case measure => simp [intOf]; omega
                · obtain rfl : t = mm := by omega
                  have HPR : Hid (PP (R k j) = bb) := Lib.hid (by
                    rw [← HR.out, Bool.eq_iff_iff, HT.out]
                    constructor
                    · intro h
                      obtain ⟨s, h1, h2, h3⟩ := PP_inv h
                      rw [HBM.out] at h1
                      exact ⟨s, h1, by rw [← HJQ.out]; exact (HRCH.out j s hjl h1).2 h2, h3⟩
                    · rintro ⟨s, h1, h2, h3⟩
                      exact PP_yes ⟨s, by rw [HBM.out]; exact h1, (HRCH.out j s hjl h1).1 (by rw [HJQ.out]; exact h2), h3⟩)
                  have P9 := HP
                  have O9 := HO
                  have K9 := HB
                  have hwq : Bq ≤ wq.heap.size := by have := HB.out.size; have := EB.out; omega
                  have hrl2 : (rk ++ prs k (endsTo R k j)).length ≤ 12 * 12 + 12 := by
                    have := endsTo_len R k j
                    rw [List.length_append, prs_len]; omega
                  have hes1 := HES1.out
                  rw [HPR.out] at hes1
                  have HES2 := Lib.hid hes1
                  obtain ⟨rj, hrj⟩ : ∃ rj, rk ++ prs k (endsTo R k j) = rj := ⟨_, rfl⟩
                  rw [hrj] at P9 hrl2
                  have HRJ := Lib.hid hrj
                  clear hrj hes1
                  cases bb
                  · have HSK : Hid (endsTo R k (j + 1) = endsTo R k j) := Lib.hid (by rw [HES2.out]; simp)
                    go_wp2
                    go_roundw
                    case rel => exact ⟨j + 1, xs, by omega, by go_num, by rw [HSK.out, HRJ.out]; exact P9.out, O9.out, K9.out⟩
                    case measure => simp [intOf]; omega
                  · have HSK : Hid (endsTo R k (j + 1) = endsTo R k j ++ [(j : Int)]) := Lib.hid (by rw [HES2.out]; simp)
                    have ka := below_alloc wq (.cells #[.int .i64 k, .int .i64 j] 3)
                    have pa := P9.out.keep ka
                    have oa := own_below O9.out ka
                    have ba := K9.out.trans (ka.mono hwq)
                    have hza : wq.heap.size < (wq.alloc (.cells #[.int .i64 k, .int .i64 j] 3)).heap.size := by simp
                    obtain ⟨gq, hgq⟩ : ∃ g, wq.heap.size = g := ⟨_, rfl⟩
                    obtain ⟨Wa, hWa⟩ : ∃ W, wq.alloc (.cells #[.int .i64 k, .int .i64 j] 3) = W := ⟨_, rfl⟩
                    rw [hWa] at pa oa ba hza
                    rw [hgq] at hza hwq
                    have HWA := Lib.hid hWa
                    have HGQ := Lib.hid hgq
                    have PA := Lib.hid pa
                    have OA := Lib.hid oa
                    have BA := Lib.hid ba
                    clear ka pa oa ba
                    go_wp2_with (first
                      | (at_builtin
                         refine wpList_append_any _ rfl (.tmp 63) (.tmp 67) 41 rfl Bq 63 i0 _ 1 24 Try.underlying41 hi hz0 hz1 hz2 rfl (by decide) _ rj.length (xs.map IrX.v) rfl (own_below PA.out.row (below_alloc _ _)) (some ⟨Wa.heap.size, 0, none⟩) 1 1 [.slice (some ⟨gq, 0, none⟩) 2 2] rfl (Rd.new1 Wa _ _) (by intro u hu; simp at hu; subst hu; rfl) (by unfold maxLen; omega) (by omega) (by have := BA.out.size; have := EB.out; simp; omega) ?_
                         intro v10 w10 hown hg hob
                         have D10 := Lib.hid (P9.out.push (by omega) HWA.out HGQ.out hown hg)
                         have O10 := Lib.hid ((own_below OA.out (below_alloc Wa (.cells #[.slice (some ⟨gq, 0, none⟩) 2 2] 63))).kept hg (own_ne (own_below OA.out (below_alloc Wa (.cells #[.slice (some ⟨gq, 0, none⟩) 2 2] 63))) (own_below PA.out.row (below_alloc Wa (.cells #[.slice (some ⟨gq, 0, none⟩) 2 2] 63))) (by decide)))
                         have B10 := Lib.hid ((BA.out.trans ((below_alloc Wa (.cells #[.slice (some ⟨gq, 0, none⟩) 2 2] 63)).mono (show Bq ≤ Wa.heap.size by omega))).grown hg (by have := BA.out.size; have := EB.out; simp; omega) (fun r hr => (PA.out.row.lt r hr).1))))
                    clear hWa hgq
                    go_roundw
                    case rel =>
                      refine ⟨j + 1, xs ++ [⟨[(k : Int), (j : Int)], some ⟨gq, 0, none⟩, 2⟩], by omega, by go_num, ?_, O10.out, B10.out⟩
                      rw [HSK.out]
                      have e : prs k (endsTo R k j ++ [(j : Int)]) = prs k (endsTo R k j) ++ [[(k : Int), (j : Int)]] := by simp [prs]
                      rw [e, ← List.append_assoc, HRJ.out]
                      exact D10.out
                    case measure => simp [intOf]; omega
            · obtain rfl : j = n := by omega
              rw [← HSC.out] at hp
              have HP2 := Lib.hid hp
              clear hp ho hb hb3
              go_wp2
              go_roundw
              case rel => exact ⟨k + 1, xs, by omega, by go_num, HP2.out, HB.out⟩
              case measure => simp [intOf]; omega
        · obtain rfl : k = n := by omega
          obtain ⟨A9, c9, rfl, _, _⟩ := own_slice hp.row
          clear hp hb
          go_wp2
          go_ret
          rw [HPL.out, HR.out]
          exact ⟨A9, c9, rfl, HP.out.ss.mono (by have := HB2.out.size; have := EB.out; omega), below_step HB2.out (by have := HB.out; rw [← EB.out] at this; exact this)⟩
    · rw [PP_no hpo]
      rintro e w4 ⟨rfl, k4⟩
      have HN := Lib.hid hpo
      have P4 := Lib.hid (o3.keep k4)
      clear hpo o3
      go_wp2
      go_ret
      rw [HNO.out (fun h => HN.out h.2)]
      exact ⟨_, _, rfl, P4.out.ss.mono (by have := HB2.out.size; have := EB.out; omega), below_step HB2.out (below_step k3 k4)⟩
  · rw [PP_no hgo]
    rintro e w3 ⟨rfl, k3⟩
    have HN := Lib.hid hgo
    have P3 := Lib.hid (O0.out.keep k3)
    clear hgo
    go_wp2
    go_ret
    rw [HNO.out (fun h => HN.out h.1)]
    exact ⟨_, _, rfl, P3.out.ss.mono (by have := HB2.out.size; have := EB.out; omega), below_step HB2.out (below_step K2.out k3)⟩
end Go.Proofs.Ytgpjgigmlgoiiaa
