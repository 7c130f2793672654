/- BagOk: the program's function. Conditions: the sizes of the lengths. -/
import Derived.Test.YtdikkfhdogkniaaBagM
import Derived.Test.YtdikkfhdogkniaaBagP
import Derived.Test.YtdikkfhdogkniaaRow2
namespace Go.Proofs.Ytdikkfhdogkniaa
open Go.RowKit
set_option maxRecDepth 100000 in

set_option maxHeartbeats 1600000 in
theorem rowOk_any (A : Option Addr) (c : Nat) (r : List Int) (w : World) (hx : RdI w A r.length r) (hn : r.length ≤ 4294967296) :
    Calls Try.prog 48 #[.slice A r.length c] w fun e w' => e = .returned (.bool (PP (RowOk r))) ∧ w = w' := by
  have HX := Lib.hid hx
  clear hx
  by_cases h4 : r.length ≤ 4
  · go_enter Try.func48, Try.ntmps48
    go_wp2
    go_loop [10] (fun i => ∃ k : Nat, k ≤ r.length ∧ i = .int .i64 k ∧ Hid (∀ z ∈ r.take k, 0 ≤ z ∧ z ≤ 99)) (fun i => r.length - (intOf i).toNat)
    case atStart => exact ⟨0, Nat.zero_le _, rfl, Lib.hid (by simp)⟩
    case round =>
      obtain ⟨k, hk, rfl, HK⟩ := hrel
      by_cases hlt : k < r.length
      · obtain ⟨ad, rfl, hc⟩ := HX.out.at_ hlt
        have he : r.getD k 0 = r[k] := by simp [List.getD, List.getElem?_eq_getElem hlt]
        rw [he] at hc
        obtain ⟨z, hz⟩ : ∃ z, r[k] = z := ⟨_, rfl⟩
        rw [hz] at hc
        have HZ := Lib.hid hz
        have k0 : (0 : Int) ≤ (k : Int) := by omega
        have k1 : (k : Int) < (r.length : Int) := by omega
        clear he hz
        by_cases g1 : z < 0
        · go_wp2
          go_ret
          exact ⟨ret_b2 (PP_no fun h => by have := (h.2 r[k] (List.getElem_mem hlt)).1; rw [HZ.out] at this; omega).symm, rfl⟩
        by_cases g2 : 99 < z
        · have g1' : 0 ≤ z := by omega
          go_wp2
          go_ret
          exact ⟨ret_b2 (PP_no fun h => by have := (h.2 r[k] (List.getElem_mem hlt)).2; rw [HZ.out] at this; omega).symm, rfl⟩
        have g1' : 0 ≤ z := by omega
        have g2' : z ≤ 99 := by omega
        go_wp2
        go_round
        case rel =>
          refine ⟨k + 1, by omega, by go_num, Lib.hid fun y hy => ?_⟩
          rw [List.take_succ_eq_append_getElem hlt] at hy
          rcases List.mem_append.1 hy with hy | hy
          · exact HK.out y hy
          · simp only [List.mem_cons, List.not_mem_nil, or_false] at hy
            rw [hy, HZ.out]
            exact ⟨g1', g2'⟩
        case measure => simp [intOf]; omega
      · obtain rfl : k = r.length := by omega
        have HF : Hid (RowOk r) := Lib.hid ⟨h4, by have := HK.out; rw [List.take_of_length_le (Nat.le_refl _)] at this; exact this⟩
        go_wp2
        go_ret
        exact ⟨ret_b2 (PP_yes HF.out).symm, rfl⟩
  · rw [PP_no (fun h => h4 h.1)]
    go_enter Try.func48, Try.ntmps48
    go_wp2
    go_ret
    exact ⟨rfl, rfl⟩
def TimesOk (t : Int) : Prop := 1 ≤ t ∧ t ≤ 1000000
set_option maxRecDepth 100000 in
theorem timesOk_any (t : Int) (w : World) : Calls Try.prog 49 #[.int .i64 t] w fun e w' => e = .returned (.bool (PP (TimesOk t))) ∧ w = w' := by
  rcases (by omega : t < 1 ∨ (1 ≤ t ∧ 1000000 < t) ∨ (1 ≤ t ∧ t ≤ 1000000)) with h | ⟨h, h2⟩ | ⟨h, h2⟩
  · rw [PP_no (fun k : TimesOk t => by have := k.1; omega)]
    go_enter Try.func49, Try.ntmps49
    go_wp2
    go_ret
    exact ⟨rfl, rfl⟩
  · rw [PP_no (fun k : TimesOk t => by have := k.2; omega)]
    go_enter Try.func49, Try.ntmps49
    go_wp2
    go_ret
    exact ⟨by simp <;> omega, rfl⟩
  · rw [PP_yes (show TimesOk t from ⟨h, h2⟩)]
    go_enter Try.func49, Try.ntmps49
    go_wp2
    go_ret
    exact ⟨by simp <;> omega, rfl⟩
theorem itAt_no {ps : List It} {k : Nat} (h : k < ps.length) (hn : ¬ ItAt ps k h) : ¬ BgOk ps := fun hh => hn (hh.2 k h)

set_option maxRecDepth 100000 in
set_option maxHeartbeats 6400000 in
theorem impl_BagOk_any (A : Option Addr) (c : Nat) (ps : List It) (w : World) (hx : RdB w A ps) (hn : ps.length ≤ 4294967296) (hk : ∀ p ∈ ps, p.r.length ≤ 4294967296) :
    Calls Try.prog 15 #[.agg #[.slice A ps.length c]] w fun e w' => e = .returned (.bool (PP (BgOk ps))) ∧ Below w.heap.size w w' := by
  have HX := Lib.hid hx
  have HK := Lib.hid hk
  clear hx hk
  by_cases hg : ps.length ≤ 300
  · have P0 := Lib.hid (heap_alloc_new w (.cells #[.slice A ps.length c] 29))
    go_enter Try.func15, Try.ntmps15
    go_wp2
    go_loopw [12] (fun i wr => ∃ k : Nat, k ≤ ps.length ∧ i = .int .i64 k ∧ Hid (BgTo ps k) ∧ Hid (wr.heap[w.heap.size]? = some (.cells #[.slice A ps.length c] 29 (0, 0))) ∧ Below w.heap.size w wr) (fun i _ => ps.length - (intOf i).toNat)
    case atStart => exact ⟨0, Nat.zero_le _, rfl, Lib.hid (fun i _ h => absurd h (by omega)), P0, below_alloc _ _⟩
    case round =>
      clear P0
      obtain ⟨k, hk, rfl, HP, HB, hb⟩ := hrel
      by_cases hlt : k < ps.length
      · obtain ⟨b, o, Kk, ck, rfl, c0, c1, hrk⟩ := (RdB.keep HX.out hb).at_ hlt
        have hkl := HK.out ps[k] (List.getElem_mem hlt)
        obtain ⟨b', o', K0, ck0, hbo, z0, _, _⟩ := (RdB.keep HX.out hb).at_ (show 0 < ps.length by omega)
        injection hbo with hbo
        injection hbo with e1 e2 _
        subst e1 e2
        have HIT : Hid (∀ (h1 : ItOk ps[k]) (h2 : ps[k].r.length = (ps[0]'(by omega)).r.length) (h3 : ∀ j (hj : j + 1 = k), cmpI (ps[j]'(by omega)).r ps[k].r < 0), ItAt ps k hlt) := Lib.hid (fun h1 h2 h3 => ⟨h1, h2, h3⟩)
        have HNO : Hid (¬ ItAt ps k hlt → PP (BgOk ps) = false) := Lib.hid (fun h => PP_no (itAt_no hlt h))
        obtain ⟨x, hxx⟩ : ∃ x, ps[k] = x := ⟨_, rfl⟩
        obtain ⟨f, hff⟩ : ∃ f, (ps[0]'(by omega)).r.length = f := ⟨_, rfl⟩
        rw [hxx] at c0 c1 hkl hrk
        rw [hff] at z0
        have EX := Lib.hid hxx
        have EF := Lib.hid hff
        clear hxx hff
        obtain ⟨r1, hr1⟩ : ∃ r, PP (RowOk x.r) = r := ⟨_, rfl⟩
        obtain ⟨r2, hr2⟩ : ∃ r, PP (TimesOk x.t) = r := ⟨_, rfl⟩
        have R1 := Lib.hid hr1
        have R2 := Lib.hid hr2
        have k0 : (0 : Int) ≤ (k : Int) := by omega
        have k1 : (k : Int) < (ps.length : Int) := by omega
        have n1 : (0 : Int) < (ps.length : Int) := by omega
        have W0 := Lib.hid (below_alloc wr (.cells #[.slice Kk x.r.length ck, .int .i64 x.t] 54))
        have Y0 := Lib.hid (heap_alloc_new wr (.cells #[.slice Kk x.r.length ck, .int .i64 x.t] 54))
        have T1 := Lib.hid (fun (w' : World) (hw : Below wr.heap.size wr w') => rowOk_any Kk ck x.r w' (RdI.below hrk hw) hkl)
        have T2 := Lib.hid (fun (w' : World) => timesOk_any x.t w')
        rw [hr1] at T1
        rw [hr2] at T2
        have HRK := Lib.hid hrk
        clear hr1 hr2 hrk
        simp only [Nat.zero_mul, Nat.add_zero] at z0
        go_wp2_with fail
        obtain ⟨W, hW⟩ : ∃ W, wr.alloc (.cells #[.slice Kk x.r.length ck, .int .i64 x.t] 54) = W := ⟨_, rfl⟩
        obtain ⟨gp, hgp⟩ : ∃ g, wr.heap.size = g := ⟨_, rfl⟩
        have W0 := W0.out
        have Y0 := Y0.out
        rw [hW] at W0 Y0 ⊢
        rw [hgp] at Y0 ⊢
        have B0 := Lib.hid (blk_below W0 HB.out)
        have q0 := fun p => cellQ (blk_cell (o := 0) Y0 rfl) p
        have q1 := fun p => cellQ (blk_cell (o := 1) Y0 rfl) p
        have q2 := fun p => cellQ (blk_cell (o := 0) B0.out rfl) p
        have q3 := fun p => cellQ (held_step W0 z0) p
        have HW0 := Lib.hid W0
        have HY0 := Lib.hid Y0
        have HC0 := Lib.hid (held_step W0 c0)
        have hb1 := below_step hb W0
        clear hW hgp c0 c1 z0 W0 Y0 hb HB
        cases r1
        · refine wp_region_below (by kernel_rfl) (by kernel_rfl) ?_
          repeat (first
            | go_big_quiet_step ((first | (go_at_call 48; exact Calls.below_same (T1.out _ (below_step HW0.out (BelowOf.h _)))) | (go_at_call 49; exact Calls.below_same (T2.out _))))
            | quiet_step ((first | (go_at_call 48; exact Calls.below_same (T1.out _ (below_step HW0.out (BelowOf.h _)))) | (go_at_call 49; exact Calls.below_same (T2.out _)))))
          refine wpQuiet_nil ?_
          intro _ hw'
          obtain ⟨⟨w5, kk⟩, hw''⟩ := hw'
          subst hw''
          have hb5 := below_step hb1 kk
          clear q0 q1 q2 q3
          go_wp2
          go_ret
          exact ⟨ret_b2 (HNO.out fun h => PP_not R1.out (by have := h.1.1; rwa [EX.out] at this)).symm, hb5⟩
        cases r2
        · refine wp_region_below (by kernel_rfl) (by kernel_rfl) ?_
          repeat (first
            | go_big_quiet_step ((first | (go_at_call 48; exact Calls.below_same (T1.out _ (below_step HW0.out (BelowOf.h _)))) | (go_at_call 49; exact Calls.below_same (T2.out _))))
            | quiet_step ((first | (go_at_call 48; exact Calls.below_same (T1.out _ (below_step HW0.out (BelowOf.h _)))) | (go_at_call 49; exact Calls.below_same (T2.out _)))))
          refine wpQuiet_nil ?_
          intro _ hw'
          obtain ⟨⟨w5, kk⟩, hw''⟩ := hw'
          subst hw''
          have hb5 := below_step hb1 kk
          clear q0 q1 q2 q3
          go_wp2
          go_ret
          exact ⟨ret_b2 (HNO.out fun h => PP_not R2.out (by have := h.1.2; rwa [EX.out] at this)).symm, hb5⟩
        by_cases hwd : ¬ x.r.length = f
        · have e3 : ((x.r.length : Int) != (f : Int)) = true := by rw [bne_iff_ne]; omega
          have HWD := Lib.hid hwd
          clear hwd
          refine wp_region_below (by kernel_rfl) (by kernel_rfl) ?_
          repeat (first
            | go_big_quiet_step ((first | (go_at_call 48; exact Calls.below_same (T1.out _ (below_step HW0.out (BelowOf.h _)))) | (go_at_call 49; exact Calls.below_same (T2.out _))))
            | quiet_step ((first | (go_at_call 48; exact Calls.below_same (T1.out _ (below_step HW0.out (BelowOf.h _)))) | (go_at_call 49; exact Calls.below_same (T2.out _)))))
          refine wpQuiet_nil ?_
          intro _ hw'
          obtain ⟨⟨w5, kk⟩, hw''⟩ := hw'
          subst hw''
          have hb5 := below_step hb1 kk
          clear q0 q1 q2 q3
          clear e3
          go_wp2
          go_ret
          exact ⟨ret_b2 (HNO.out fun h => HWD.out (by have := h.2.1; rwa [EX.out, EF.out] at this)).symm, hb5⟩
        have hwd := Classical.not_not.1 hwd
        have e3 : ((x.r.length : Int) != (f : Int)) = false := by rw [bne_eq_false_iff_eq]; omega
        have HWD := Lib.hid hwd
        clear hwd
        refine wp_region_below (by kernel_rfl) (by kernel_rfl) ?_
        repeat (first
          | go_big_quiet_step ((first | (go_at_call 48; exact Calls.below_same (T1.out _ (below_step HW0.out (BelowOf.h _)))) | (go_at_call 49; exact Calls.below_same (T2.out _))))
          | quiet_step ((first | (go_at_call 48; exact Calls.below_same (T1.out _ (below_step HW0.out (BelowOf.h _)))) | (go_at_call 49; exact Calls.below_same (T2.out _)))))
        refine wpQuiet_nil ?_
        intro _ hw'
        obtain ⟨⟨w5, kk⟩, hw''⟩ := hw'
        subst hw''
        have hb5 := below_step hb1 kk
        clear q0 q1 q2 q3
        clear e3
        have HIT2 : Hid ((∀ j (hj : j + 1 = k), cmpI (ps[j]'(by omega)).r ps[k].r < 0) → ItAt ps k hlt) := Lib.hid (fun h => HIT.out (by rw [EX.out]; exact ⟨PP_of R1.out, PP_of R2.out⟩) (by rw [EX.out, EF.out]; exact HWD.out) h)
        have B5 := Lib.hid (blk_below kk B0.out)
        have Y5 := Lib.hid (blk_below kk HY0.out)
        have W5 := Lib.hid (below_step HW0.out kk)
        clear HIT B0 HY0 HW0 kk HWD
        have q0 := fun p => cellQ (blk_cell (o := 0) Y5.out rfl) p
        have q2 := fun p => cellQ (blk_cell (o := 0) B5.out rfl) p
        rcases (by omega : k ≤ 0 ∨ 0 < k) with hk0 | hkp
        · have d0 : decide ((0 : Int) < (k : Int)) = false := decide_eq_false (by omega)
          have d1 : decide (0 < k) = false := decide_eq_false (by omega)
          go_wp2_with fail
          refine wp_region_below (by kernel_rfl) (by kernel_rfl) ?_
          repeat (first
            | go_big_quiet_step (fail)
            | quiet_step (fail))
          refine wpQuiet_nil ?_
          intro _ hw'
          obtain ⟨⟨w6, kk⟩, hw''⟩ := hw'
          subst hw''
          have hb6 := below_step hb5 kk
          clear d0 d1 q0 q2
          go_wp2
          go_roundw
          case rel => exact ⟨k + 1, by omega, by go_num, Lib.hid (HP.out.next hlt (HIT2.out (fun j hj => by omega))), Lib.hid (blk_below kk B5.out), hb6⟩
          case measure => simp [intOf]; omega
        · obtain ⟨m, hm⟩ : ∃ m, k = m + 1 := ⟨k - 1, by omega⟩
          have hml : m < ps.length := by omega
          obtain ⟨b', o', Km, cm, hbo, p0, _, hrm⟩ := (RdB.keep HX.out hb5).at_ hml
          injection hbo with hbo
          injection hbo with e1 e2 _
          subst e1 e2
          have hkm := HK.out ps[m] (List.getElem_mem hml)
          have HC : Hid (∀ (h : cmpI ps[m].r ps[k].r < 0), ItAt ps k hlt) := Lib.hid (fun h => HIT2.out (fun j hj => by
            obtain rfl : j = m := by omega
            exact h))
          have HN : Hid (¬ cmpI ps[m].r ps[k].r < 0 → PP (BgOk ps) = false) := Lib.hid (fun h => HNO.out (fun hh => h (hh.2.2 m (by omega))))
          obtain ⟨y, hyy⟩ : ∃ y, ps[m] = y := ⟨_, rfl⟩
          rw [hyy] at p0 hrm hkm HC HN
          rw [EX.out] at HC HN
          have T := Lib.hid (fun (p : BelowOf _) => impl_RowLess_any Km Kk y.r.length x.r.length cm ck y.r x.r p.w (RdI.below hrm p.h) (RdI.below (RdI.below HRK.out W5.out) p.h) hkm hkl)
          obtain ⟨r, hr⟩ : ∃ r, rowLess y.r x.r = r := ⟨_, rfl⟩
          rw [hr] at T
          have HR := Lib.hid hr
          have p0 := fun p => cellQ p0 p
          have d0 : decide ((0 : Int) < (k : Int)) = true := decide_eq_true (by omega)
          have d1 : decide (0 < k) = true := decide_eq_true (by omega)
          have d2 : (k : Int) - 1 = (m : Int) := by omega
          have d4 : (0 : Int) ≤ (m : Int) := by omega
          have d5 : (m : Int) < (ps.length : Int) := by omega
          have d6 : IntKind.i64.wrap ((k : Int) - 1) = (m : Int) := by rw [d2]; exact IntWalk.i64_in _ (by omega)
          have d7 : IntKind.i64.wrap (m : Int) = (m : Int) := IntWalk.i64_in _ (by omega)
          have HM := Lib.hid hm
          clear hyy hr hm hrm
          go_wp2_with fail
          refine wp_region_below (by kernel_rfl) (by kernel_rfl) ?_
          repeat (first
            | go_big_quiet_step ((go_at_call 37; exact Calls.below_same (T.out _)))
            | quiet_step ((go_at_call 37; exact Calls.below_same (T.out _))))
          refine wpQuiet_nil ?_
          intro _ hw'
          obtain ⟨⟨w6, kk⟩, hw''⟩ := hw'
          subst hw''
          have hb6 := below_step hb5 kk
          clear d0 d1 d2 d6 d7 q0 q2 p0
          cases r
          · go_wp2
            go_ret
            exact ⟨ret_b2 (HN.out (by have := HR.out; rw [rowLess, decide_eq_false_iff_not] at this; omega)).symm, hb6⟩
          · go_wp2
            go_roundw
            case rel => exact ⟨k + 1, by omega, by go_num, Lib.hid (HP.out.next hlt (HC.out (by have := HR.out; rwa [rowLess, decide_eq_true_eq] at this))), Lib.hid (blk_below kk B5.out), hb6⟩
            case measure => simp [intOf]; omega
      · obtain rfl : k = ps.length := by omega
        go_wp2
        go_ret
        exact ⟨ret_b2 (PP_yes ⟨hg, fun i hi => HP.out i hi hi⟩).symm, hb⟩
  · rw [PP_no (fun h => hg h.1)]
    go_enter Try.func15, Try.ntmps15
    go_wp2
    go_ret
    exact ⟨rfl, below_alloc _ _⟩
end Go.Proofs.Ytdikkfhdogkniaa
