/- laws.sameBag; impl.BagEach. Conditions: the sizes of the lengths. Printed by xeach.py. -/
import Derived.Test.YtdikkfhdogkniaaCopyB
import Derived.Test.YtdikkfhdogkniaaPutB
import Derived.Test.YtdikkfhdogkniaaBelowQ
namespace Go.Proofs.Ytdikkfhdogkniaa
open Go.RowKit
set_option maxRecDepth 100000 in

set_option maxHeartbeats 3200000 in
theorem sameBag_any (A B : Option Addr) (c d : Nat) (ps qs : List It) (w : World) (hx : RdB w A ps) (hy : RdB w B qs) (hn : ps.length ≤ 4294967296) (hk : ∀ p ∈ ps, p.r.length ≤ 4294967296) :
    Calls Try.prog 39 #[.agg #[.slice A ps.length c], .agg #[.slice B qs.length d]] w fun e w' => e = .returned (.bool (PP (ps = qs))) ∧ Below w.heap.size w w' := by
  have HX := Lib.hid hx
  have HY := Lib.hid hy
  have HK := Lib.hid hk
  have ka := below_alloc w (.cells #[.slice A ps.length c] 29)
  have kb := below_alloc (w.alloc (.cells #[.slice A ps.length c] 29)) (.cells #[.slice B qs.length d] 29)
  have P0 := Lib.hid (blk_below kb (heap_alloc_new w (.cells #[.slice A ps.length c] 29)))
  have P1 := heap_alloc_new (w.alloc (.cells #[.slice A ps.length c] 29)) (.cells #[.slice B qs.length d] 29)
  rw [show (w.alloc (.cells #[.slice A ps.length c] 29)).heap.size = w.heap.size + 1 by simp] at P1
  have P1 := Lib.hid P1
  have B0 := Lib.hid (below_step ka kb)
  clear hx hy hk ka kb
  by_cases hl : ps.length = qs.length
  · have HL := Lib.hid hl
    have b1 : ((ps.length : Int) != (qs.length : Int)) = false := by rw [bne_eq_false_iff_eq]; omega
    have hlq : qs.length ≤ ps.length := by omega
    have hlp : ps.length ≤ qs.length := by omega
    clear hl
    go_enter Try.func39, Try.ntmps39
    go_wp2
    go_loopw [5] (fun i wr => ∃ (k : Nat), k ≤ ps.length ∧ i = .int .i64 k ∧ Hid (ps.take k = qs.take k) ∧ wr.heap[w.heap.size]? = some (.cells #[.slice A ps.length c] 29 (0, 0)) ∧ wr.heap[w.heap.size + 1]? = some (.cells #[.slice B qs.length d] 29 (0, 0)) ∧ Below w.heap.size w wr) (fun i _ => ps.length - (intOf i).toNat)
    case atStart => exact ⟨0, Nat.zero_le _, rfl, Lib.hid (by simp), P0.out, P1.out, B0.out⟩
    case round =>
      clear P0 P1 B0
      obtain ⟨k, hk, rfl, HE, q0, q1, hb⟩ := hrel
      have Q0 := Lib.hid q0
      have Q1 := Lib.hid q1
      have a0 := blk_cell (o := 0) q0 rfl
      have b0 := blk_cell (o := 0) q1 rfl
      clear q0 q1
      by_cases hlt : k < ps.length
      · have hlt2 : k < qs.length := by omega
        obtain ⟨b, o, K1, d1, rfl, c0, c1, r1⟩ := (RdB.keep HX.out hb).at_ hlt
        obtain ⟨b', o', K2, d2, rfl, c0', c1', r2⟩ := (RdB.keep HY.out hb).at_ hlt2
        have hkl := HK.out ps[k] (List.getElem_mem hlt)
        have hnx : ps.take (k + 1) = ps.take k ++ [ps[k]] := List.take_succ_eq_append_getElem hlt
        have hny : qs.take (k + 1) = qs.take k ++ [qs[k]] := List.take_succ_eq_append_getElem hlt2
        have hne : ps[k] ≠ qs[k] → ps ≠ qs := fun h e => h (by subst e; rfl)
        obtain ⟨x, hxx⟩ : ∃ x, ps[k] = x := ⟨_, rfl⟩
        obtain ⟨y, hyy⟩ : ∃ y, qs[k] = y := ⟨_, rfl⟩
        rw [hxx] at c0 c1 r1 hkl hnx hne
        rw [hyy] at c0' c1' r2 hny hne
        have HNX := Lib.hid hnx
        have HNY := Lib.hid hny
        have HNE := Lib.hid hne
        clear hxx hyy hnx hny hne
        obtain ⟨xr, xt⟩ := x
        obtain ⟨yr, yt⟩ := y
        simp only at c0 c1 r1 hkl c0' c1' r2
        have k0 : (0 : Int) ≤ (k : Int) := by omega
        have k1 : (k : Int) < (ps.length : Int) := by omega
        have k2 : (k : Int) < (qs.length : Int) := by omega
        have R1 := Lib.hid (fun p : BelowOf wr => RdI.below r1 p.h)
        have R2 := Lib.hid (fun p : BelowOf wr => RdI.below r2 p.h)
        have T := Lib.hid (fun w h1 h2 => sameInts_any K1 K2 xr.length yr.length d1 d2 xr yr w h1 h2 hkl)
        obtain ⟨r, hr⟩ : ∃ r, eqL xr yr = r := ⟨_, rfl⟩
        rw [hr] at T
        have HR := Lib.hid hr
        have a0 := fun p => cellQ a0 p
        have b0 := fun p => cellQ b0 p
        have c0 := fun p => cellQ c0 p
        have c1 := fun p => cellQ c1 p
        have c0' := fun p => cellQ c0' p
        have c1' := fun p => cellQ c1' p
        have HB := Lib.hid hb
        clear hr r1 r2 hb
        cases r
        · have hno : ps ≠ qs := HNE.out (fun e => by injection e with e1 e2; have := HR.out; rw [eqL_yes e1] at this; cases this)
          have HNO := Lib.hid hno
          clear hno
          go_wp2_with fail
          refine wp_region_below (by kernel_rfl) (by kernel_rfl) ?_
          repeat (first
            | go_big_quiet_step ((go_at_call 35; exact Calls.below_of (T.out _ (R1.out _) (R2.out _))))
            | quiet_step ((go_at_call 35; exact Calls.below_of (T.out _ (R1.out _) (R2.out _)))))
          refine wpQuiet_nil ?_
          intro _ hw'
          obtain ⟨⟨w5, kk⟩, hw''⟩ := hw'
          subst hw''
          have hb5 := below_step HB.out kk
          clear c0 c1 c0' c1' a0 b0
          go_wp2
          go_ret
          exact ⟨ret_b2 (PP_no HNO.out).symm, hb5⟩
        · have hre : xr = yr := by have := HR.out; unfold eqL at this; exact of_decide_eq_true this
          have HRE := Lib.hid hre
          by_cases hxt : xt = yt
          · have b2 : (xt != yt) = false := by rw [bne_eq_false_iff_eq]; exact hxt
            have HXT := Lib.hid hxt
            clear hre hxt
            go_wp2_with fail
            refine wp_region_below (by kernel_rfl) (by kernel_rfl) ?_
            repeat (first
              | go_big_quiet_step ((go_at_call 35; exact Calls.below_of (T.out _ (R1.out _) (R2.out _))))
              | quiet_step ((go_at_call 35; exact Calls.below_of (T.out _ (R1.out _) (R2.out _)))))
            refine wpQuiet_nil ?_
            intro _ hw'
            obtain ⟨⟨w5, kk⟩, hw''⟩ := hw'
            subst hw''
            have hb5 := below_step HB.out kk
            clear c0 c1 c0' c1' a0 b0
            go_wp2
            go_roundw
            case rel => exact ⟨k + 1, by omega, by go_num, Lib.hid (by rw [HNX.out, HNY.out, HE.out, HRE.out, HXT.out]), blk_below kk Q0.out, blk_below kk Q1.out, hb5⟩
            case measure => simp [intOf]; omega
          · have b2 : (xt != yt) = true := by rw [bne_iff_ne]; exact hxt
            have hno : ps ≠ qs := HNE.out (fun e => by injection e with e1 e2; exact hxt e2)
            have HNO := Lib.hid hno
            clear hno hre hxt
            go_wp2_with fail
            refine wp_region_below (by kernel_rfl) (by kernel_rfl) ?_
            repeat (first
              | go_big_quiet_step ((go_at_call 35; exact Calls.below_of (T.out _ (R1.out _) (R2.out _))))
              | quiet_step ((go_at_call 35; exact Calls.below_of (T.out _ (R1.out _) (R2.out _)))))
            refine wpQuiet_nil ?_
            intro _ hw'
            obtain ⟨⟨w5, kk⟩, hw''⟩ := hw'
            subst hw''
            have hb5 := below_step HB.out kk
            clear c0 c1 c0' c1' a0 b0
            go_wp2
            go_ret
            exact ⟨ret_b2 (PP_no HNO.out).symm, hb5⟩
      · obtain rfl : k = ps.length := by omega
        go_wp2
        go_ret
        refine ⟨ret_b2 (PP_yes ?_).symm, hb⟩
        have := HE.out
        rw [List.take_of_length_le (Nat.le_refl _), List.take_of_length_le (by omega)] at this
        exact this
  · have b1 : ((ps.length : Int) != (qs.length : Int)) = true := by rw [bne_iff_ne]; omega
    have hno : ps ≠ qs := fun e => hl (by rw [e])
    rw [PP_no hno]
    clear hl hno P0 P1
    go_enter Try.func39, Try.ntmps39
    go_wp2
    go_ret
    exact ⟨rfl, B0.out⟩

/-- A bag in which each row stands once. -/
def onceL (k : Nat) (ps : List It) : List It := (ps.take k).map (fun p => ⟨p.r, 1⟩) ++ ps.drop k
theorem onceL_len (k : Nat) (ps : List It) : (onceL k ps).length = ps.length := by simp [onceL]; omega
theorem onceL_zero (ps : List It) : onceL 0 ps = ps := by simp [onceL]
theorem onceL_all (ps : List It) : onceL ps.length ps = ps.map (fun p => ⟨p.r, 1⟩) := by simp [onceL]
theorem onceL_at {k : Nat} {ps : List It} (h : k < ps.length) (h' : k < (onceL k ps).length) : (onceL k ps)[k] = ps[k] := by
  have e : (onceL k ps)[k]? = some ps[k] := by
    unfold onceL
    rw [List.getElem?_append_right (by simp; omega)]
    simp [List.length_take, Nat.min_eq_left (Nat.le_of_lt h), List.getElem?_drop, h]
  exact (List.getElem?_eq_some_iff.1 e).2
theorem onceL_set {k : Nat} {ps : List It} (h : k < ps.length) : (onceL k ps).set k ⟨ps[k].r, 1⟩ = onceL (k + 1) ps := by
  unfold onceL
  rw [List.set_append_right _ _ (by simp; omega), List.drop_eq_getElem_cons h, List.take_succ_eq_append_getElem h, List.map_append, List.append_assoc]
  have : k - ((ps.take k).map (fun p => (⟨p.r, 1⟩ : It))).length = 0 := by simp; omega
  rw [this]
  rfl

set_option maxRecDepth 100000 in
set_option maxHeartbeats 3200000 in
theorem impl_BagEach_any (B : Option Addr) (d : Nat) (ps : List It) (w : World) (hx : RdB w B ps) (hn : ps.length ≤ 4294967296) (hk : ∀ p ∈ ps, p.r.length ≤ 4294967296) :
    Calls Try.prog 40 #[.agg #[.slice B ps.length d]] w (MadeBag w (ps.map fun p => ⟨p.r, 1⟩)) := by
  have ka := below_alloc w (.cells #[.slice B ps.length d] 29)
  have kb := below_alloc (w.alloc (.cells #[.slice B ps.length d] 29)) (.cells #[.slice none 0 0] 29)
  have P0 := blk_below kb (heap_alloc_new w (.cells #[.slice B ps.length d] 29))
  have R0 := heap_alloc_new (w.alloc (.cells #[.slice B ps.length d] 29)) (.cells #[.slice none 0 0] 29)
  rw [show (w.alloc (.cells #[.slice B ps.length d] 29)).heap.size = w.heap.size + 1 by simp] at R0
  have hB := below_step ka kb
  have hs1 : w.heap.size + 2 ≤ ((w.alloc (.cells #[.slice B ps.length d] 29)).alloc (.cells #[.slice none 0 0] 29)).heap.size := by simp
  have C := Lib.hid (copyBag_any B d ps ((w.alloc (.cells #[.slice B ps.length d] 29)).alloc (.cells #[.slice none 0 0] 29)) (hx.keep hB) hn hk)
  obtain ⟨W1, hW1⟩ : ∃ W, (w.alloc (.cells #[.slice B ps.length d] 29)).alloc (.cells #[.slice none 0 0] 29) = W := ⟨_, rfl⟩
  rw [hW1] at P0 R0 hB hs1 C
  clear ka kb hx hk
  have c0 := blk_cell (o := 0) P0 rfl
  go_enter Try.func40, Try.ntmps40
  go_wp2_with fail
  clear hW1
  refine C.out.mono ?_
  rintro e w2 ⟨A1, c1, rfl, o1, k2⟩
  clear c0 C P0
  have kc := below_alloc w2 (.cells #[.slice A1 ps.length c1] 29)
  have Q0 := heap_alloc_new w2 (.cells #[.slice A1 ps.length c1] 29)
  have k23 := below_step k2 kc
  replace R0 := blk_below k23 R0
  replace hB := below_step hB k23
  replace o1 := o1.keep kc
  have hs3 : w2.heap.size < (w2.alloc (.cells #[.slice A1 ps.length c1] 29)).heap.size := by simp
  have hs2 := k2.size
  obtain ⟨gq, hgq⟩ : ∃ g, w2.heap.size = g := ⟨_, rfl⟩
  obtain ⟨W3, hW3⟩ : ∃ W, w2.alloc (.cells #[.slice A1 ps.length c1] 29) = W := ⟨_, rfl⟩
  rw [hW3] at R0 hB Q0 o1 hs3
  rw [hgq] at Q0 hs2 hs3
  clear k2 kc k23
  have q0 := blk_cell (o := 0) Q0 rfl
  go_wp2
  clear hW3 hgq q0
  have HS1 := Lib.hid hs1
  go_loopw [10] (fun i wr => ∃ (k : Nat), k ≤ ps.length ∧ i = .int .i64 k ∧ wr.heap[gq]? = some (.cells #[.slice A1 ps.length c1] 29 (0, 0)) ∧ OwnB wr W1.heap.size A1 c1 (onceL k ps) ∧ wr.heap[w.heap.size + 1]? = some (.cells #[.slice none 0 0] 29 (0, 0)) ∧ Below w.heap.size w wr ∧ gq < wr.heap.size) (fun i _ => ps.length - (intOf i).toNat)
  case atStart => exact ⟨0, Nat.zero_le _, rfl, Q0, by rw [onceL_zero]; exact o1, R0, hB, hs3⟩
  clear Q0 o1 R0 hB hs3
  case round =>
    obtain ⟨k, hk, rfl, Q0, o1, R0, hB, hgr⟩ := hrel
    have q0 := blk_cell (o := 0) Q0 rfl
    by_cases hlt : k < ps.length
    · have hat := onceL_at hlt (by rw [onceL_len]; exact hlt)
      have hset := onceL_set hlt
      have hll := onceL_len k ps
      obtain ⟨xs, hxs, hin⟩ := o1
      have hxl : xs.length = ps.length := by rw [← hll, ← hxs]; simp
      have hkx : k < xs.length := by omega
      have hxp : xs[k].p = ps[k] := by
        have : (xs.map ItX.p)[k]'(by simp; exact hkx) = xs[k].p := by simp
        rw [← this, ← hat]
        simp only [hxs]
      obtain ⟨gB, cap, hv, hgB, _⟩ := hin.row.form (by omega)
      injection hv with e1 e2 e3
      subst e1 e3
      have c1' := hin.row.cellAt (k * 2 + 1) (by omega)
      rw [(ixCells_at xs k hkx).2] at c1'
      have fr1 := hin.row.frozenAt (k * 2 + 1)
      have hgb2 : W1.heap.size ≤ gB := (hin.row.lt gB rfl).1
      have hne : gq ≠ gB := fun e => row_ne hin.row Q0 (by decide) (by rw [e]; rfl)
      obtain ⟨x, hx⟩ : ∃ x, xs[k] = x := ⟨_, rfl⟩
      rw [hx] at c1' hxp
      obtain ⟨xp, K2, kc2⟩ := x
      simp only at hxp c1'
      subst hxp
      have HF : Hid (OwnB (wr.setCell ⟨gB, k * 2 + 1, none⟩ (.int .i64 1)) W1.heap.size (some ⟨gB, 0, none⟩) c1 (onceL (k + 1) ps)) := Lib.hid ⟨_, by rw [← hset, ← hxs, List.map_set], hin.count hkx hx⟩
      have HQ := Lib.hid (blk_set_ne (g' := gB) (j := k * 2 + 1) (u := .int .i64 1) Q0 hne)
      have HR := Lib.hid (blk_set_ne (g' := gB) (j := k * 2 + 1) (u := .int .i64 1) R0 (by have := HS1.out; omega))
      have HBB := Lib.hid (show Below w.heap.size w (wr.setCell ⟨gB, k * 2 + 1, none⟩ (.int .i64 1)) from hB.setCell (by show w.heap.size ≤ gB; have := HS1.out; omega) _)
      have k0 : (0 : Int) ≤ (k : Int) := by omega
      have k1 : (k : Int) < (ps.length : Int) := by omega
      clear hat hset hll hxs hin hxl hx hgB Q0 R0 hB
      go_wp2
      go_roundw
      case rel => exact ⟨k + 1, by omega, by go_num, HQ.out, HF.out, HR.out, HBB.out, by simpa using hgr⟩
      case measure => simp [intOf]; omega
    · obtain rfl : k = ps.length := by omega
      rw [onceL_all] at o1
      have r0 := blk_cell (o := 0) R0 rfl
      have f0 : wr.frozen? ⟨w.heap.size + 1, 0, none⟩ = false := frozen_of_row wr _ 0 _ _ R0
      obtain ⟨xs, hxs, hin⟩ := o1
      have HF : Hid (OwnB (wr.setCell ⟨w.heap.size + 1, 0, none⟩ (.slice A1 ps.length c1)) w.heap.size A1 c1 (ps.map fun p => ⟨p.r, 1⟩)) := Lib.hid ⟨xs, hxs, (hin.setBag R0).mono (by have := HS1.out; omega)⟩
      have HBB := Lib.hid (show Below w.heap.size w (wr.setCell ⟨w.heap.size + 1, 0, none⟩ (.slice A1 ps.length c1)) from hB.setCell (by show w.heap.size ≤ w.heap.size + 1; omega) _)
      clear hxs hin hB
      go_wp2
      refine bodyPost_ret (v := .agg #[.slice A1 ps.length c1]) (by simp [results, Try.results40, go_sem, r0]) rfl ⟨A1, c1, by simp, HF.out, HBB.out⟩
end Go.Proofs.Ytdikkfhdogkniaa
