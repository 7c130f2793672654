/- BagOk: the reference's function. Conditions: the sizes of the lengths. -/
import Derived.Test.YtdikkfhdogkniaaBagOk
import Derived.Test.YtdikkfhdogkniaaIn
namespace Go.Proofs.Ytdikkfhdogkniaa
open Go.RowKit
set_option maxRecDepth 100000 in

set_option maxHeartbeats 1600000 in
theorem l03Row_any (A : Option Addr) (c : Nat) (r : List Int) (w : World) (hx : RdI w A r.length r) (hn : r.length ≤ 4294967296) :
    Calls Try.prog 44 #[.slice A r.length c] w fun e w' => e = .returned (.bool (PP (RowOk r))) ∧ w = w' := by
  have HX := Lib.hid hx
  clear hx
  go_enter Try.func44, Try.ntmps44
  go_wp2
  go_loop [3] (fun i => ∃ k : Nat, k ≤ r.length ∧ i = .int .i64 k ∧ Hid (∀ z ∈ r.take k, 0 ≤ z ∧ z ≤ 99)) (fun i => r.length - (intOf i).toNat)
  case atStart => exact ⟨0, Nat.zero_le _, rfl, Lib.hid (by simp)⟩
  case round =>
    obtain ⟨k, hk, rfl, HK⟩ := hrel
    by_cases hlt : k < r.length
    · obtain ⟨ad, rfl, hc⟩ := HX.out.at_ hlt
      have he : r.getD k 0 = r[k] := by simp [List.getD, List.getElem?_eq_getElem hlt]
      rw [he] at hc
      obtain ⟨z, hz⟩ : ∃ z, r[k] = z := ⟨_, rfl⟩
      rw [hz] at hc
      have HZ := Lib.hid hz
      have k0 : (0 : Int) ≤ (k : Int) := by omega
      have k1 : (k : Int) < (r.length : Int) := by omega
      clear he hz
      have V := Lib.hid (fun w => spec_l01In_any z 0 99 w)
      by_cases g : 0 ≤ z ∧ z ≤ 99
      · rw [show (decide ((0 : Int) ≤ z) && decide (z ≤ (99 : Int))) = true by simp; omega] at V
        have G := Lib.hid g
        clear g
        go_wp2_with fail
        refine (V.out _).mono ?_
        rintro e w1 ⟨rfl, rfl⟩
        go_wp2
        go_round
        case rel =>
          refine ⟨k + 1, by omega, by go_num, Lib.hid fun y hy => ?_⟩
          rw [List.take_succ_eq_append_getElem hlt] at hy
          rcases List.mem_append.1 hy with hy | hy
          · exact HK.out y hy
          · simp only [List.mem_cons, List.not_mem_nil, or_false] at hy
            rw [hy, HZ.out]
            exact G.out
        case measure => simp [intOf]; omega
      · rw [show (decide ((0 : Int) ≤ z) && decide (z ≤ (99 : Int))) = false by simp; omega] at V
        have G := Lib.hid g
        clear g
        go_wp2_with fail
        refine (V.out _).mono ?_
        rintro e w1 ⟨rfl, rfl⟩
        go_wp2
        go_ret
        exact ⟨ret_b2 (PP_no fun h => G.out (by have := h.2 r[k] (List.getElem_mem hlt); rwa [HZ.out] at this)).symm, rfl⟩
    · obtain rfl : k = r.length := by omega
      have HF : Hid (∀ z ∈ r, 0 ≤ z ∧ z ≤ 99) := Lib.hid (by have := HK.out; rw [List.take_of_length_le (Nat.le_refl _)] at this; exact this)
      by_cases h4 : r.length ≤ 4
      · have HP := Lib.hid (PP_yes (show RowOk r from ⟨h4, HF.out⟩))
        go_wp2
        go_ret
        exact ⟨ret_b2 (by rw [HP.out]; simp <;> omega), rfl⟩
      · have HP := Lib.hid (PP_no (fun h : RowOk r => h4 h.1))
        go_wp2
        go_ret
        exact ⟨ret_b2 (by rw [HP.out]; simp <;> omega), rfl⟩

set_option maxRecDepth 100000 in
set_option maxHeartbeats 6400000 in
theorem spec_BagOk_any (A : Option Addr) (c : Nat) (ps : List It) (w : World) (hx : RdB w A ps) (hn : ps.length ≤ 4294967296) (hk : ∀ p ∈ ps, p.r.length ≤ 4294967296) :
    Calls Try.prog 13 #[.agg #[.slice A ps.length c]] w fun e w' => e = .returned (.bool (PP (BgOk ps))) ∧ Below w.heap.size w w' := by
  have HX := Lib.hid hx
  have HK := Lib.hid hk
  clear hx hk
  have P0 := Lib.hid (heap_alloc_new w (.cells #[.slice A ps.length c] 29))
  go_enter Try.func13, Try.ntmps13
  go_wp2
  go_loopw [3] (fun i wr => ∃ k : Nat, k ≤ ps.length ∧ i = .int .i64 k ∧ Hid (BgTo ps k) ∧ Hid (wr.heap[w.heap.size]? = some (.cells #[.slice A ps.length c] 29 (0, 0))) ∧ Below w.heap.size w wr) (fun i _ => ps.length - (intOf i).toNat)
  case atStart => exact ⟨0, Nat.zero_le _, rfl, Lib.hid (fun i _ h => absurd h (by omega)), P0, below_alloc _ _⟩
  case round =>
    clear P0
    obtain ⟨k, hk, rfl, HP, HB, hb⟩ := hrel
    have b0 := blk_cell (o := 0) HB.out rfl
    by_cases hlt : k < ps.length
    · obtain ⟨b, o, Kk, ck, rfl, c0, c1, hrk⟩ := (RdB.keep HX.out hb).at_ hlt
      have hkl := HK.out ps[k] (List.getElem_mem hlt)
      have HNO : Hid (¬ ItAt ps k hlt → PP (BgOk ps) = false) := Lib.hid (fun h => PP_no (itAt_no hlt h))
      have HX1 : Hid (∀ (h1 : ItOk ps[k]) (h2 : ps[k].r.length = (ps[0]'(by omega)).r.length) (h3 : ∀ j (hj : j + 1 = k), cmpI (ps[j]'(by omega)).r ps[k].r < 0), ItAt ps k hlt) := Lib.hid (fun h1 h2 h3 => ⟨h1, h2, h3⟩)
      obtain ⟨x, hxx⟩ : ∃ x, ps[k] = x := ⟨_, rfl⟩
      rw [hxx] at c0 c1 hkl hrk HX1
      have EX := Lib.hid hxx
      clear hxx
      obtain ⟨r1, hr1⟩ : ∃ r, PP (RowOk x.r) = r := ⟨_, rfl⟩
      have R1 := Lib.hid hr1
      have k0 : (0 : Int) ≤ (k : Int) := by omega
      have k1 : (k : Int) < (ps.length : Int) := by omega
      have W0 := Lib.hid (below_alloc wr (.cells #[.slice Kk x.r.length ck, .int .i64 x.t] 54))
      have Y0 := Lib.hid (heap_alloc_new wr (.cells #[.slice Kk x.r.length ck, .int .i64 x.t] 54))
      have T1 := Lib.hid (fun (w' : World) (hw : Below wr.heap.size wr w') => l03Row_any Kk ck x.r w' (RdI.below hrk hw) hkl)
      have T2 := Lib.hid (fun (w' : World) => spec_l01In_any x.t 1 1000000 w')
      obtain ⟨r2, hr2⟩ : ∃ r, (decide ((1 : Int) ≤ x.t) && decide (x.t ≤ 1000000)) = r := ⟨_, rfl⟩
      rw [hr1] at T1
      rw [hr2] at T2
      have R2 : Hid (r2 = true ↔ TimesOk x.t) := Lib.hid (by rw [← hr2, Bool.and_eq_true, decide_eq_true_eq, decide_eq_true_eq]; rfl)
      have HRK := Lib.hid hrk
      clear hr1 hr2 hrk
      go_wp2_with fail
      obtain ⟨W, hW⟩ : ∃ W, wr.alloc (.cells #[.slice Kk x.r.length ck, .int .i64 x.t] 54) = W := ⟨_, rfl⟩
      obtain ⟨gp, hgp⟩ : ∃ g, wr.heap.size = g := ⟨_, rfl⟩
      have W0 := W0.out
      have Y0 := Y0.out
      rw [hW] at W0 Y0 ⊢
      rw [hgp] at Y0 ⊢
      have B0 := Lib.hid (blk_below W0 HB.out)
      have q0 := fun p => cellQ (blk_cell (o := 0) Y0 rfl) p
      have q1 := fun p => cellQ (blk_cell (o := 1) Y0 rfl) p
      have q2 := fun p => cellQ (blk_cell (o := 0) B0.out rfl) p
      have HW0 := Lib.hid W0
      have HY0 := Lib.hid Y0
      have hb1 := below_step hb W0
      clear hW hgp c0 c1 W0 Y0 b0 HB
      cases r1
      · refine wp_region_below (by kernel_rfl) (by kernel_rfl) ?_
        repeat (first
          | go_big_quiet_step ((first | (go_at_call 44; exact Calls.below_same (T1.out _ (below_step HW0.out (BelowOf.h _)))) | (go_at_call 45; exact Calls.below_same (T2.out _))))
          | quiet_step ((first | (go_at_call 44; exact Calls.below_same (T1.out _ (below_step HW0.out (BelowOf.h _)))) | (go_at_call 45; exact Calls.below_same (T2.out _)))))
        refine wpQuiet_nil ?_
        intro _ hw'
        obtain ⟨⟨w5, kk⟩, hw''⟩ := hw'
        subst hw''
        have hb5 := below_step hb1 kk
        clear q0 q1 q2
        go_wp2
        go_ret
        exact ⟨ret_b2 (HNO.out fun h => PP_not R1.out (by have := h.1.1; rwa [EX.out] at this)).symm, hb5⟩
      cases r2
      · refine wp_region_below (by kernel_rfl) (by kernel_rfl) ?_
        repeat (first
          | go_big_quiet_step ((first | (go_at_call 44; exact Calls.below_same (T1.out _ (below_step HW0.out (BelowOf.h _)))) | (go_at_call 45; exact Calls.below_same (T2.out _))))
          | quiet_step ((first | (go_at_call 44; exact Calls.below_same (T1.out _ (below_step HW0.out (BelowOf.h _)))) | (go_at_call 45; exact Calls.below_same (T2.out _)))))
        refine wpQuiet_nil ?_
        intro _ hw'
        obtain ⟨⟨w5, kk⟩, hw''⟩ := hw'
        subst hw''
        have hb5 := below_step hb1 kk
        clear q0 q1 q2
        go_wp2
        go_ret
        exact ⟨ret_b2 (HNO.out fun h => by have := R2.out.2 (by have := h.1.2; rwa [EX.out] at this); cases this).symm, hb5⟩
      rcases (by omega : k ≤ 0 ∨ 0 < k) with hk0 | hkp
      · have d0 : decide ((0 : Int) < (k : Int)) = false := decide_eq_false (by omega)
        have d1 : decide (0 < k) = false := decide_eq_false (by omega)
        have HIT : Hid (ItAt ps k hlt) := Lib.hid (HX1.out ⟨PP_of R1.out, R2.out.1 rfl⟩ (by
          rw [← EX.out]
          congr 2
          have h0 : k = 0 := by omega
          subst h0
          rfl) (fun j hj => by omega))
        refine wp_region_below (by kernel_rfl) (by kernel_rfl) ?_
        repeat (first
          | go_big_quiet_step ((first | (go_at_call 44; exact Calls.below_same (T1.out _ (below_step HW0.out (BelowOf.h _)))) | (go_at_call 45; exact Calls.below_same (T2.out _))))
          | quiet_step ((first | (go_at_call 44; exact Calls.below_same (T1.out _ (below_step HW0.out (BelowOf.h _)))) | (go_at_call 45; exact Calls.below_same (T2.out _)))))
        refine wpQuiet_nil ?_
        intro _ hw'
        obtain ⟨⟨w5, kk⟩, hw''⟩ := hw'
        subst hw''
        have hb5 := below_step hb1 kk
        clear d0 d1 q0 q1 q2
        go_wp2
        go_roundw
        case rel => exact ⟨k + 1, by omega, by go_num, Lib.hid (HP.out.next hlt HIT.out), Lib.hid (blk_below kk B0.out), hb5⟩
        case measure => simp [intOf]; omega
      · obtain ⟨m, hm⟩ : ∃ m, k = m + 1 := ⟨k - 1, by omega⟩
        have hml : m < ps.length := by omega
        obtain ⟨b', o', Km, cm, hbo, p0, _, hrm⟩ := (RdB.keep HX.out hb1).at_ hml
        injection hbo with hbo
        injection hbo with e1 e2 _
        subst e1 e2
        have hkm := HK.out ps[m] (List.getElem_mem hml)
        have HIT : Hid (x.r.length = ps[m].r.length → cmpI ps[m].r x.r < 0 → ItAt ps k hlt) := Lib.hid (fun h1 h2 => HX1.out ⟨PP_of R1.out, R2.out.1 rfl⟩ (by
          have := (HP.out m hml (by omega)).2.1
          rw [h1]
          exact this) (fun j hj => by
            obtain rfl : j = m := by omega
            exact h2))
        have HN1 : Hid (¬ x.r.length = ps[m].r.length → PP (BgOk ps) = false) := Lib.hid (fun h => PP_no (fun hh => h (by
          have h1 := (hh.2 k hlt).2.1
          have h2 := (hh.2 m hml).2.1
          rw [← EX.out]
          omega)))
        have HN2 : Hid (¬ cmpI ps[m].r x.r < 0 → PP (BgOk ps) = false) := Lib.hid (fun h => PP_no (fun hh => h (by
          have h1 := (hh.2 k hlt).2.2 m (by omega)
          rw [EX.out] at h1
          exact h1)))
        obtain ⟨y, hyy⟩ : ∃ y, ps[m] = y := ⟨_, rfl⟩
        rw [hyy] at p0 hrm hkm HIT HN1 HN2
        have T3 := Lib.hid (fun (p : BelowOf _) => spec_RowLess_any Km Kk y.r.length x.r.length cm ck y.r x.r p.w (RdI.below hrm p.h) (RdI.below (RdI.below HRK.out HW0.out) p.h) hkm hkl)
        obtain ⟨r, hr⟩ : ∃ r, rowLess y.r x.r = r := ⟨_, rfl⟩
        rw [hr] at T3
        have HR := Lib.hid hr
        have p0 := fun p => cellQ p0 p
        have d0 : decide ((0 : Int) < (k : Int)) = true := decide_eq_true (by omega)
        have d1 : decide (0 < k) = true := decide_eq_true (by omega)
        have d2 : (k : Int) - 1 = (m : Int) := by omega
        have d4 : (0 : Int) ≤ (m : Int) := by omega
        have d5 : (m : Int) < (ps.length : Int) := by omega
        have d6 : IntKind.i64.wrap ((k : Int) - 1) = (m : Int) := by rw [d2]; exact IntWalk.i64_in _ (by omega)
        have d7 : IntKind.i64.wrap (m : Int) = (m : Int) := IntWalk.i64_in _ (by omega)
        have HM := Lib.hid hm
        clear hyy hr hm hrm
        cases r
        · refine wp_region_below (by kernel_rfl) (by kernel_rfl) ?_
          repeat (first
            | go_big_quiet_step ((first | (go_at_call 44; exact Calls.below_same (T1.out _ (below_step HW0.out (BelowOf.h _)))) | (go_at_call 45; exact Calls.below_same (T2.out _)) | (go_at_call 46; exact Calls.below_of (T3.out _))))
            | quiet_step ((first | (go_at_call 44; exact Calls.below_same (T1.out _ (below_step HW0.out (BelowOf.h _)))) | (go_at_call 45; exact Calls.below_same (T2.out _)) | (go_at_call 46; exact Calls.below_of (T3.out _)))))
          refine wpQuiet_nil ?_
          intro _ hw'
          obtain ⟨⟨w5, kk⟩, hw''⟩ := hw'
          subst hw''
          have hb5 := below_step hb1 kk
          clear d0 d1 d2 d6 d7 q0 q1 q2 p0
          go_wp2
          go_ret
          exact ⟨ret_b2 (HN2.out (by have := HR.out; rw [rowLess, decide_eq_false_iff_not] at this; omega)).symm, hb5⟩
        by_cases hwd : x.r.length = y.r.length
        · have e3 : ((y.r.length : Int) != (x.r.length : Int)) = false := by rw [bne_eq_false_iff_eq]; omega
          have HWD := Lib.hid hwd
          clear hwd
          refine wp_region_below (by kernel_rfl) (by kernel_rfl) ?_
          repeat (first
            | go_big_quiet_step ((first | (go_at_call 44; exact Calls.below_same (T1.out _ (below_step HW0.out (BelowOf.h _)))) | (go_at_call 45; exact Calls.below_same (T2.out _)) | (go_at_call 46; exact Calls.below_of (T3.out _))))
            | quiet_step ((first | (go_at_call 44; exact Calls.below_same (T1.out _ (below_step HW0.out (BelowOf.h _)))) | (go_at_call 45; exact Calls.below_same (T2.out _)) | (go_at_call 46; exact Calls.below_of (T3.out _)))))
          refine wpQuiet_nil ?_
          intro _ hw'
          obtain ⟨⟨w5, kk⟩, hw''⟩ := hw'
          subst hw''
          have hb5 := below_step hb1 kk
          clear d0 d1 d2 d6 d7 q0 q1 q2 p0 e3
          go_wp2
          go_roundw
          case rel => exact ⟨k + 1, by omega, by go_num, Lib.hid (HP.out.next hlt (HIT.out HWD.out (by have := HR.out; rwa [rowLess, decide_eq_true_eq] at this))), Lib.hid (blk_below kk B0.out), hb5⟩
          case measure => simp [intOf]; omega
        · have e3 : ((y.r.length : Int) != (x.r.length : Int)) = true := by rw [bne_iff_ne]; omega
          have HWD := Lib.hid hwd
          clear hwd
          refine wp_region_below (by kernel_rfl) (by kernel_rfl) ?_
          repeat (first
            | go_big_quiet_step ((first | (go_at_call 44; exact Calls.below_same (T1.out _ (below_step HW0.out (BelowOf.h _)))) | (go_at_call 45; exact Calls.below_same (T2.out _)) | (go_at_call 46; exact Calls.below_of (T3.out _))))
            | quiet_step ((first | (go_at_call 44; exact Calls.below_same (T1.out _ (below_step HW0.out (BelowOf.h _)))) | (go_at_call 45; exact Calls.below_same (T2.out _)) | (go_at_call 46; exact Calls.below_of (T3.out _)))))
          refine wpQuiet_nil ?_
          intro _ hw'
          obtain ⟨⟨w5, kk⟩, hw''⟩ := hw'
          subst hw''
          have hb5 := below_step hb1 kk
          clear d0 d1 d2 d6 d7 q0 q1 q2 p0 e3
          go_wp2
          go_ret
          exact ⟨ret_b2 (HN1.out HWD.out).symm, hb5⟩
    · obtain rfl : k = ps.length := by omega
      by_cases h3 : ps.length ≤ 300
      · have HF := Lib.hid (PP_yes (show BgOk ps from ⟨h3, fun i hi => HP.out i hi hi⟩))
        go_wp2
        go_ret
        exact ⟨ret_b2 (by rw [HF.out]; simp <;> omega), hb⟩
      · have HF := Lib.hid (PP_no (fun h : BgOk ps => h3 h.1))
        go_wp2
        go_ret
        exact ⟨ret_b2 (by rw [HF.out]; simp <;> omega), hb⟩
end Go.Proofs.Ytdikkfhdogkniaa
