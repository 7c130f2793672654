/- NfaPairs: program and reference make the same list of pairs. Conditions: the lengths, the labels in their range. -/
import Derived.Test.YtgpjgigmlgoiiaaPrs
import Derived.Test.YtgpjgigmlgoiiaaStates
import Derived.Test.YtgpjgigmlgoiiaaReachS
import Derived.Test.YtgpjgigmlgoiiaaSTakes
namespace Go.Proofs.Ytgpjgigmlgoiiaa
open Go.RowKit

/-- A vertex is come to in an accepting state. -/
def acR (ges arcs : List Ed) (bs : List Bool) : Rl := fun v w => ∃ s, s < bs.length ∧ Rch ges arcs v w s ∧ bs.getD s false = true
noncomputable def npL (s : Int) (es : List Ed) (m : Int) (arcs : List Ed) (bs : List Bool) : List (List Int) := if PP (GOk s es ∧ NOk m arcs bs) = true then ppTo (acR es arcs bs) s.toNat s.toNat else []
theorem npL_no {s : Int} {es : List Ed} {m : Int} {arcs : List Ed} {bs : List Bool} (h : ¬ (GOk s es ∧ NOk m arcs bs)) : npL s es m arcs bs = [] := by
  unfold npL
  rw [PP_no h]
  simp
theorem npL_yes {n : Nat} {es : List Ed} {m : Int} {arcs : List Ed} {bs : List Bool} (h1 : GOk n es) (h2 : NOk m arcs bs) : npL n es m arcs bs = ppTo (acR es arcs bs) n n := by
  unfold npL
  rw [PP_yes ⟨h1, h2⟩, if_pos rfl]
  simp
theorem npL_len (s : Int) (es : List Ed) (m : Int) (arcs : List Ed) (bs : List Bool) : (npL s es m arcs bs).length ≤ 144 ∧ ∀ p ∈ npL s es m arcs bs, p.length = 2 := by
  unfold npL
  split
  · rename_i h
    have h1 := (PP_inv h).1.1
    have h2 := ppTo_len (acR es arcs bs) s.toNat s.toNat
    have h3 : s.toNat * s.toNat ≤ 12 * 12 := Nat.mul_le_mul (by omega) (by omega)
    exact ⟨by omega, ppTo_row _ _ _⟩
  · simp
theorem acc_row {n : Nat} {es arcs : List Ed} {bs : List Bool} {v w : Nat} {rs : List Nat} (hes : Rng n es) (has : Rng bs.length arcs) (hv : v < n) (hm : 0 < bs.length) (hm2 : bs.length ≤ 32) (hr : ∀ x s, x < n → (RB rs x s ↔ Rch es arcs v x s)) (hw : w < n) : accB bs (rs.getD w 0) = PP (acR es arcs bs v w) := by
  have hin : InS (rs.getD w 0) bs.length := fun i hi => ((hr w i hw).1 hi |>.rng hes has hv hm).2
  rw [Bool.eq_iff_iff, accB_iff hin hm2]
  constructor
  · rintro ⟨i, h1, h2, h3⟩
    exact PP_yes ⟨i, h1, (hr w i hw).1 h2, h3⟩
  · intro h
    obtain ⟨i, h1, h2, h3⟩ := PP_inv h
    exact ⟨i, h1, (hr w i hw).2 h2, h3⟩
theorem row_inS {n : Nat} {es arcs : List Ed} {bs : List Bool} {v w : Nat} {rs : List Nat} (hes : Rng n es) (has : Rng bs.length arcs) (hv : v < n) (hm : 0 < bs.length) (hr : ∀ x s, x < n → (RB rs x s ↔ Rch es arcs v x s)) (hw : w < n) : InS (rs.getD w 0) bs.length := fun i hi => ((hr w i hw).1 hi |>.rng hes has hv hm).2
theorem gOk_lb {n : Int} {es : List Ed} (h : GOk n es) : ∀ e ∈ es, 0 ≤ e.l ∧ e.l ≤ 255 := by
  intro e he
  obtain ⟨i, hi, rfl⟩ := List.getElem_of_mem he
  have h1 := (h.2.2 i hi).1.2.2
  unfold lblB at h1
  rw [Bool.and_eq_true] at h1
  have := of_decide_eq_true h1.1
  have := of_decide_eq_true h1.2
  omega
theorem nOk_rng {m : Int} {arcs : List Ed} {bs : List Bool} (h : NOk m arcs bs) : Rng bs.length arcs := by
  intro e he
  have h1 := h.sm e he
  have h2 := h.2.1
  omega

set_option maxRecDepth 100000 in
set_option maxHeartbeats 3200000 in
theorem impl_NfaPairs_any (s : Int) (Ag A B : Option Addr) (cg c d : Nat) (es : List Ed) (m : Int) (arcs : List Ed) (bs : List Bool) (w : World) (he : RdE w Ag es) (hel : es.length ≤ 1048576) (hl : ∀ e ∈ es, 0 ≤ e.l ∧ e.l ≤ 255) (hx : RdE w A arcs) (hal : arcs.length ≤ 1048576) (hla : ∀ e ∈ arcs, 0 ≤ e.l ∧ e.l ≤ 255) (hy : RdB w B bs.length bs) (hbl : bs.length ≤ 1048576) :
    Calls Try.prog 21 #[.agg #[.int .i64 s, .slice Ag es.length cg], .agg #[.int .i64 m, .slice A arcs.length c, .slice B bs.length d]] w (MadeSS w (npL s es m arcs bs)) := by
  obtain ⟨i0, hi, hz0, hz1, hz2⟩ := info_parts Try.infoIntS
  have ka := below_alloc w (.cells #[.int .i64 s, .slice Ag es.length cg] 45)
  have p0 := heap_alloc_new w (.cells #[.int .i64 s, .slice Ag es.length cg] 45)
  obtain ⟨W1, hW1⟩ : ∃ W, w.alloc (.cells #[.int .i64 s, .slice Ag es.length cg] 45) = W := ⟨_, rfl⟩
  obtain ⟨g0, hg0⟩ : ∃ g, w.heap.size = g := ⟨_, rfl⟩
  rw [hW1] at p0 ka
  rw [hg0] at p0
  have kb := below_alloc W1 (.cells #[.int .i64 m, .slice A arcs.length c, .slice B bs.length d] 29)
  have p1 := heap_alloc_new W1 (.cells #[.int .i64 m, .slice A arcs.length c, .slice B bs.length d] 29)
  have p02 := blk_below kb p0
  have hb2 := below_step ka kb
  have he2 := (he.below ka).below kb
  have hx2 := (hx.below ka).below kb
  have hy2 := (hy.below ka).below kb
  obtain ⟨W2, hW2⟩ : ∃ W, W1.alloc (.cells #[.int .i64 m, .slice A arcs.length c, .slice B bs.length d] 29) = W := ⟨_, rfl⟩
  obtain ⟨g1, hg1⟩ : ∃ g, W1.heap.size = g := ⟨_, rfl⟩
  rw [hW2] at p1 p02 hb2 he2 hx2 hy2
  rw [hg1] at p1
  have P0 := Lib.hid p02
  have P1 := Lib.hid p1
  have HB2 := Lib.hid hb2
  have HE := Lib.hid he2
  have HX := Lib.hid hx2
  have HY := Lib.hid hy2
  have HLA := Lib.hid hla
  have HL := Lib.hid hl
  have b00 := blk_cell (o := 0) p02 rfl
  have b01 := blk_cell (o := 1) p02 rfl
  have b10 := blk_cell (o := 0) p1 rfl
  have b11 := blk_cell (o := 1) p1 rfl
  have b12 := blk_cell (o := 2) p1 rfl
  have GO := Lib.hid (impl_GraphOk_any s Ag cg es W2 he2 (by omega) hl)
  have PO := Lib.hid (fun W (h : Below W2.heap.size W2 W) => impl_NfaOk_any m A B c d arcs bs W (hx2.below h) (by omega) (by omega) hla)
  have HNO := Lib.hid (fun (h : ¬ (GOk s es ∧ NOk m arcs bs)) => npL_no h)
  clear he hl hx hy hla ka kb p0 p1 p02 hb2 he2 hx2 hy2
  go_enter Try.func21, Try.ntmps21
  go_wp2_with fail
  clear hW1 hW2 hg0 hg1
  refine GO.out.mono ?_
  by_cases hgo : GOk s es
  · rw [PP_yes hgo]
    rintro e w3 ⟨rfl, k3⟩
    have b00 := blk_cell (o := 0) (blk_below k3 P0.out) rfl
    have b01 := blk_cell (o := 1) (blk_below k3 P0.out) rfl
    have b10 := blk_cell (o := 0) (blk_below k3 P1.out) rfl
    have b11 := blk_cell (o := 1) (blk_below k3 P1.out) rfl
    have b12 := blk_cell (o := 2) (blk_below k3 P1.out) rfl
    go_wp2_with fail
    refine (PO.out w3 k3).mono ?_
    by_cases hpo : NOk m arcs bs
    · rw [PP_yes hpo]
      rintro e w5 ⟨rfl, k4⟩
      have k35 := below_step k3 k4
      have b00 := blk_cell (o := 0) (blk_below k35 P0.out) rfl
      have b01 := blk_cell (o := 1) (blk_below k35 P0.out) rfl
      have b10 := blk_cell (o := 0) (blk_below k35 P1.out) rfl
      have b11 := blk_cell (o := 1) (blk_below k35 P1.out) rfl
      have b12 := blk_cell (o := 2) (blk_below k35 P1.out) rfl
      have HGO := Lib.hid hgo
      have HPO := Lib.hid hpo
      have h12 := hgo.1
      obtain ⟨n, rfl⟩ : ∃ n : Nat, s = n := ⟨s.toNat, by omega⟩
      have hn12 : n ≤ 12 := by omega
      have HPL := Lib.hid (npL_yes hgo hpo)
      have hnm := hpo.2.1
      have hnm1 := hpo.1
      obtain ⟨R, hR⟩ : ∃ R, acR es arcs bs = R := ⟨_, rfl⟩
      have HR := Lib.hid hR
      have ST := Lib.hid (fun (f : Nat) (hf : f < n) (W : World) (h : Below W2.heap.size W2 W) => statesAt_any n f Ag A B cg c d m es arcs bs W hn12 hf (HE.out.below h) hel (gOk_er HGO.out) (HX.out.below h) (by omega) HPO.out.sm2 (gOk_lb HGO.out))
      have K35 := Lib.hid k35
      clear k3 k4 hgo hpo h12 k35 hR
      go_wp2_with fail
      clear b00 b01 b10 b11 b12
      go_loopw [5, 19] (fun v i wr => ∃ (k : Nat) (xs : List IrX), k ≤ n ∧ i = .int .i64 k ∧ PrI w5.heap.size v (ppTo R n k) xs wr ∧ Below w5.heap.size w5 wr) (fun _ i _ => n - (intOf i).toNat)
      case atStart => exact ⟨0, [], Nat.zero_le _, rfl, ⟨rfl, World.ownsRow_nil _ _ _ _, by simp, List.Pairwise.nil⟩, Below.refl _ _⟩
      case round =>
        obtain ⟨k, xs, hk, rfl, hp, hb⟩ := hrel
        obtain ⟨wo, rfl⟩ : ∃ wo : World, wo = wr := ⟨_, rfl⟩
        have HP := Lib.hid hp
        have HB := Lib.hid hb
        have hb2' := below_step K35.out hb
        have b00 := blk_cell (o := 0) (blk_below hb2' P0.out) rfl
        have b01 := blk_cell (o := 1) (blk_below hb2' P0.out) rfl
        have b10 := blk_cell (o := 0) (blk_below hb2' P1.out) rfl
        have b11 := blk_cell (o := 1) (blk_below hb2' P1.out) rfl
        have b12 := blk_cell (o := 2) (blk_below hb2' P1.out) rfl
        by_cases hlt : k < n
        · have hel2 := endsTo_len R k n
          have HSC := Lib.hid (ppTo_succ R n k)
          have hpl3 := ppTo_len R n k
          have hkn : k * n ≤ 12 * 12 := Nat.mul_le_mul (by omega) hn12
          obtain ⟨rk, hrk⟩ : ∃ rk, ppTo R n k = rk := ⟨_, rfl⟩
          rw [hrk] at HP HSC hpl3
          have k0 : (0 : Int) ≤ (k : Int) := by omega
          have k1 : (k : Int) < (n : Int) := by omega
          have C := Lib.hid (ST.out k hlt wo hb2')
          clear hrk hp hb hb2'
          go_wp2_with fail
          refine C.out.mono ?_
          rintro e w7 ⟨A7, c7, rs, rfl, h7, hrl, hrlo, hrch, k7⟩
          have O7 := Lib.hid (own_mono h7 HB.out.size)
          have P7 := Lib.hid (HP.out.keep k7)
          have K7 := Lib.hid (below_step HB.out k7)
          have HACC := Lib.hid (fun w (hw : w < n) => acc_row (gOk_er HGO.out) (nOk_rng HPO.out) hlt (by omega) (by omega) hrch hw)
          have HINS := Lib.hid (fun w (hw : w < n) => row_inS (gOk_er HGO.out) (nOk_rng HPO.out) hlt (by omega) hrch hw)
          rw [HR.out] at HACC
          have HRL := Lib.hid hrl
          have HRLO := Lib.hid hrlo
          clear h7 k7 b00 b01 b10 b11 b12 hrch hrl hrlo C
          go_wp2_with fail
          go_loopw [5, 27] (fun v i wr => ∃ (j : Nat) (xs : List IrX), j ≤ n ∧ i = .int .i64 j ∧ PrI w5.heap.size v (rk ++ prs k (endsTo R k j)) xs wr ∧ wr.ownsRow w5.heap.size 80 1 (.slice A7 n c7) n (u32s rs) ∧ Below w5.heap.size w5 wr) (fun _ i _ => n - (intOf i).toNat)
          case atStart => exact ⟨0, xs, Nat.zero_le _, rfl, by simpa [prs, endsTo] using P7.out, O7.out, K7.out⟩
          case round =>
            clear P7 O7 K7 HP HB
            obtain ⟨j, xs, hj, rfl, hp, ho, hb⟩ := hrel
            obtain ⟨wq, rfl⟩ : ∃ wq : World, wq = wr := ⟨_, rfl⟩
            have HP := Lib.hid hp
            have HB := Lib.hid hb
            have HO := Lib.hid ho
            by_cases hjl : j < n
            · obtain ⟨ad2, rfl, z1⟩ := RdU.at_ (show RdU wq A7 rs by unfold RdU; rw [HRL.out]; exact Rd.of_own ho) (k := j) (by rw [HRL.out]; exact hjl)
              have hacc := HACC.out j hjl
              have hins := HINS.out j hjl
              have hlo := HRLO.out j
              have HES1 := Lib.hid (endsTo_succ R k j)
              obtain ⟨S, hS⟩ : ∃ S, rs.getD j 0 = S := ⟨_, rfl⟩
              rw [hS] at z1 hacc hins hlo
              obtain ⟨ab, hab⟩ : ∃ ab, PP (R k j) = ab := ⟨_, rfl⟩
              rw [hab] at hacc HES1
              have hb3 := below_step K35.out hb
              have AC := Lib.hid (accepts_any m A B arcs.length c d bs S wq (HY.out.below hb3) (by omega) hins)
              rw [hacc] at AC
              have n0 := blk_cell (o := 0) (blk_below hb3 P1.out) rfl
              have n1 := blk_cell (o := 1) (blk_below hb3 P1.out) rfl
              have n2 := blk_cell (o := 2) (blk_below hb3 P1.out) rfl
              have hrl2 : (rk ++ prs k (endsTo R k j)).length ≤ 12 * 12 + 12 := by
                have := endsTo_len R k j
                rw [List.length_append, prs_len]; omega
              obtain ⟨rj, hrj⟩ : ∃ rj, rk ++ prs k (endsTo R k j) = rj := ⟨_, rfl⟩
              rw [hrj] at HP hrl2
              have HRJ := Lib.hid hrj
              have j0 : (0 : Int) ≤ (j : Int) := by omega
              have j1 : (j : Int) < (n : Int) := by omega
              have hwq0 := hb.size
              clear hS hab hrj hp ho hb hb3 hacc hins
              go_wp2_with fail
              refine AC.out.mono ?_
              rintro e w9 ⟨rfl, k9⟩
              have P9 := Lib.hid (HP.out.keep k9)
              have O9 := Lib.hid (own_below HO.out k9)
              have K9 := Lib.hid (below_step HB.out k9)
              have hwq : w5.heap.size ≤ w9.heap.size := K9.out.size
              clear z1 n0 n1 n2 k9 AC
              cases ab
              · have HSK : Hid (endsTo R k (j + 1) = endsTo R k j) := Lib.hid (by rw [HES1.out]; simp)
                go_wp2
                go_roundw
                case rel => exact ⟨j + 1, xs, by omega, by go_num, by rw [HSK.out, HRJ.out]; exact P9.out, O9.out, K9.out⟩
                case measure => simp [intOf]; omega
              · have HSK : Hid (endsTo R k (j + 1) = endsTo R k j ++ [(j : Int)]) := Lib.hid (by rw [HES1.out]; simp)
                have ka := below_alloc w9 (.cells #[.int .i64 k, .int .i64 j] 3)
                have pa := P9.out.keep ka
                have oa := own_below O9.out ka
                have ba := below_step K9.out ka
                have hza : w9.heap.size < (w9.alloc (.cells #[.int .i64 k, .int .i64 j] 3)).heap.size := by simp
                obtain ⟨gq, hgq⟩ : ∃ g, w9.heap.size = g := ⟨_, rfl⟩
                obtain ⟨Wa, hWa⟩ : ∃ W, w9.alloc (.cells #[.int .i64 k, .int .i64 j] 3) = W := ⟨_, rfl⟩
                rw [hWa] at pa oa ba hza
                rw [hgq] at hza hwq
                have HWA := Lib.hid hWa
                have HGQ := Lib.hid hgq
                have PA := Lib.hid pa
                have OA := Lib.hid oa
                have BA := Lib.hid ba
                clear ka pa oa ba
                go_wp2_with (first
                  | (at_builtin
                     refine wpList_append_any _ rfl (.tmp 35) (.tmp 39) 41 rfl w5.heap.size 63 i0 _ 1 24 Try.underlying41 hi hz0 hz1 hz2 rfl (by decide) _ rj.length (xs.map IrX.v) rfl (own_below PA.out.row (below_alloc _ _)) (some ⟨Wa.heap.size, 0, none⟩) 1 1 [.slice (some ⟨gq, 0, none⟩) 2 2] rfl (Rd.new1 Wa _ _) (by intro u hu; simp at hu; subst hu; rfl) (by unfold maxLen; omega) (by omega) (by have := BA.out.size; simp; omega) ?_
                     intro v10 w10 hown hg hob
                     have D10 := Lib.hid (P9.out.push (by omega) HWA.out HGQ.out hown hg)
                     have O10 := Lib.hid ((own_below OA.out (below_alloc Wa (.cells #[.slice (some ⟨gq, 0, none⟩) 2 2] 63))).kept hg (own_ne (own_below OA.out (below_alloc Wa (.cells #[.slice (some ⟨gq, 0, none⟩) 2 2] 63))) (own_below PA.out.row (below_alloc Wa (.cells #[.slice (some ⟨gq, 0, none⟩) 2 2] 63))) (by decide)))
                     have B10 := Lib.hid ((below_step BA.out (below_alloc Wa (.cells #[.slice (some ⟨gq, 0, none⟩) 2 2] 63))).grown hg (by have := BA.out.size; simp; omega) (fun r hr => (PA.out.row.lt r hr).1))))
                clear hWa hgq
                go_roundw
                case rel =>
                  refine ⟨j + 1, xs ++ [⟨[(k : Int), (j : Int)], some ⟨gq, 0, none⟩, 2⟩], by omega, by go_num, ?_, O10.out, B10.out⟩
                  rw [HSK.out]
                  have e : prs k (endsTo R k j ++ [(j : Int)]) = prs k (endsTo R k j) ++ [[(k : Int), (j : Int)]] := by simp [prs]
                  rw [e, ← List.append_assoc, HRJ.out]
                  exact D10.out
                case measure => simp [intOf]; omega
            · obtain rfl : j = n := by omega
              rw [← HSC.out] at hp
              have HP2 := Lib.hid hp
              clear hp ho hb
              go_wp2
              go_roundw
              case rel => exact ⟨k + 1, xs, by omega, by go_num, HP2.out, HB.out⟩
              case measure => simp [intOf]; omega
        · obtain rfl : k = n := by omega
          obtain ⟨A9, c9, rfl, _, _⟩ := own_slice hp.row
          clear hp hb
          go_wp2
          go_ret
          rw [HPL.out, HR.out]
          exact ⟨A9, c9, rfl, HP.out.ss.mono (Nat.le_trans HB2.out.size K35.out.size), below_step HB2.out (below_step K35.out HB.out)⟩
    · rw [PP_no hpo]
      rintro e w4 ⟨rfl, k4⟩
      have HN := Lib.hid hpo
      clear hpo
      go_wp2
      go_ret
      rw [HNO.out (fun h => HN.out h.2)]
      exact MadeSS.nil (below_step HB2.out (below_step k3 k4))
  · rw [PP_no hgo]
    rintro e w3 ⟨rfl, k3⟩
    have HN := Lib.hid hgo
    clear hgo
    go_wp2
    go_ret
    rw [HNO.out (fun h => HN.out h.1)]
    exact MadeSS.nil (below_step HB2.out k3)
end Go.Proofs.Ytgpjgigmlgoiiaa
