/- NfaOk: the reference's function. Conditions: the labels' range and the size of a length. -/
import Derived.Test.YtjlekcoikceidaaNfaOk
namespace Go.Proofs.Ytjlekcoikceidaa
open Go.RowKit
set_option maxRecDepth 100000 in

set_option maxHeartbeats 6400000 in
theorem spec_NfaOk_any (s : Int) (A B : Option Addr) (c d : Nat) (es : List Ed) (bs : List Bool) (w : World) (hx : RdE w A es) (hn : es.length ≤ 4294967296) (_hm : bs.length ≤ 4294967296) (hl : ∀ e ∈ es, 0 ≤ e.l ∧ e.l ≤ 255) :
    Calls Try.prog 17 #[.agg #[.int .i64 s, .slice A es.length c, .slice B bs.length d]] w fun e w' => e = .returned (.bool (PP (NOk s es bs))) ∧ Below w.heap.size w w' := by
  have HX := Lib.hid hx
  have HL := Lib.hid hl
  clear hx hl
  have I0 := Lib.hid (fun w => spec_l01In_any s 1 24 w)
  by_cases hg : 1 ≤ s ∧ s ≤ 24 ∧ (bs.length : Int) = s
  · obtain ⟨hs1, hs2, hbl⟩ := hg
    have nb : ((bs.length : Int) != s) = false := by simpa using hbl
    have HBL := Lib.hid hbl
    clear hbl
    rw [show (decide (1 ≤ s) && decide (s ≤ 24)) = true by simp; omega] at I0
    go_enter Try.func17, Try.ntmps17
    go_wp2_with fail
    refine (I0.out _).mono ?_
    rintro e w1 ⟨rfl, rfl⟩
    go_wp2_with fail
    go_loopw [3] (fun i wr => ∃ k : Nat, k ≤ es.length ∧ i = .int .i64 k ∧ Hid (OkTo s es k) ∧ wr.heap[w.heap.size]? = some (.cells #[.int .i64 s, .slice A es.length c, .slice B bs.length d] 29 (0, 0)) ∧ Below w.heap.size w wr) (fun i _ => es.length - (intOf i).toNat)
    case atStart => exact ⟨0, Nat.zero_le _, rfl, fun i _ h => absurd h (by omega), heap_alloc_new _ _, below_alloc _ _⟩
    case round =>
      clear nb I0
      obtain ⟨k, hk, rfl, HK, hbx, hb⟩ := hrel
      have HBX := Lib.hid hbx
      have b0 := blk_cell (o := 0) hbx rfl
      have b1 := blk_cell (o := 1) hbx rfl
      have hbl := blk_lt hbx
      clear hbx
      by_cases hlt : k < es.length
      · obtain ⟨b, o, rfl, c0, c1, c2⟩ := (RdE.below HX.out hb).at_ hlt
        obtain ⟨x, hxx⟩ : ∃ x, es[k] = x := ⟨_, rfl⟩
        have hxl := HL.out es[k] (List.getElem_mem hlt)
        rw [hxx] at c0 c1 c2 hxl
        have EX := Lib.hid hxx
        clear hxx
        have k0 : (0 : Int) ≤ (k : Int) := by omega
        have k1 : (k : Int) < (es.length : Int) := by omega
        have hno : ¬ EdOk s x → PP (NOk s es bs) = false := fun h => PP_no fun hh => h (by have := (hh.2.2 k hlt hlt).1; rwa [EX.out] at this)
        have HNO := Lib.hid hno
        clear hno
        have hB3 := Lib.hid (hb.alloc hb.size (.cells #[.int .i64 x.f, .int .u8 x.l, .int .i64 x.t] 64))
        have V1 := Lib.hid (fun w => spec_vtx_any s x.f w)
        have V2 := Lib.hid (fun w => spec_vtx_any s x.t w)
        have w1 : IntKind.i64.wrap (s - 1) = s - 1 := IntWalk.i64_in _ (by omega)
        go_wp2_with fail
        have hx3 := heap_alloc_new wr (.cells #[.int .i64 x.f, .int .u8 x.l, .int .i64 x.t] 64)
        have HBX3 := Lib.hid (blk_below (below_alloc wr (.cells #[.int .i64 x.f, .int .u8 x.l, .int .i64 x.t] 64)) HBX.out)
        have HX3 := Lib.hid (RdE.below (RdE.below HX.out hb) (below_alloc wr (.cells #[.int .i64 x.f, .int .u8 x.l, .int .i64 x.t] 64)))
        obtain ⟨W3, hW3⟩ : ∃ W, wr.alloc (.cells #[.int .i64 x.f, .int .u8 x.l, .int .i64 x.t] 64) = W := ⟨_, rfl⟩
        obtain ⟨g3, hg3⟩ : ∃ g, wr.heap.size = g := ⟨_, rfl⟩
        rw [hW3] at hB3 hx3 HBX3 HX3 ⊢
        rw [hg3] at hx3 ⊢
        clear b0 b1 c0 c1 c2 hbl hW3 hg3
        have b0 := fun p => cellQ (blk_cell (o := 0) HBX3.out rfl) p
        have b1 := fun p => cellQ (blk_cell (o := 1) HBX3.out rfl) p
        have y0 := fun p => cellQ (blk_cell (o := 0) hx3 rfl) p
        have y1 := fun p => cellQ (blk_cell (o := 1) hx3 rfl) p
        have y2 := fun p => cellQ (blk_cell (o := 2) hx3 rfl) p
        clear hx3
        cases g1 : vtxB s x.f with
        | false =>
          rw [g1] at V1
          have G := Lib.hid g1
          clear g1
          refine wp_region_below (by kernel_rfl) (by kernel_rfl) ?_
          repeat (first
            | go_big_quiet_step ((first | (go_at_call 35; (with_reducible exact Calls.below_of (V1.out _)))))
            | quiet_step ((first | (go_at_call 35; (with_reducible exact Calls.below_of (V1.out _))))))
          refine wpQuiet_nil ?_
          intro _ hw'
          obtain ⟨⟨w5, kk⟩, hw''⟩ := hw'
          subst hw''
          have hb5 := below_step hB3.out kk
          have hbx5 := blk_below kk HBX3.out
          clear b0 b1 y0 y1 y2 w1
          go_wp2
          go_ret
          exact ⟨ret_b2 (HNO.out fun h => by have := h.1; rw [G.out] at this; cases this).symm, hb5⟩
        | true =>
        rw [g1] at V1
        have G1 := Lib.hid g1
        clear g1
        cases g2 : vtxB s x.t with
        | false =>
          rw [g2] at V2
          have G := Lib.hid g2
          clear g2
          refine wp_region_below (by kernel_rfl) (by kernel_rfl) ?_
          repeat (first
            | go_big_quiet_step ((first | (go_at_call 35; first | (with_reducible exact Calls.below_of (V1.out _)) | (with_reducible exact Calls.below_of (V2.out _)))))
            | quiet_step ((first | (go_at_call 35; first | (with_reducible exact Calls.below_of (V1.out _)) | (with_reducible exact Calls.below_of (V2.out _))))))
          refine wpQuiet_nil ?_
          intro _ hw'
          obtain ⟨⟨w5, kk⟩, hw''⟩ := hw'
          subst hw''
          have hb5 := below_step hB3.out kk
          have hbx5 := blk_below kk HBX3.out
          clear b0 b1 y0 y1 y2 w1
          go_wp2
          go_ret
          exact ⟨ret_b2 (HNO.out fun h => by have := h.2.1; rw [G.out] at this; cases this).symm, hb5⟩
        | true =>
        rw [g2] at V2
        have G2 := Lib.hid g2
        clear g2
        by_cases g3 : x.l < 97
        · have d3 : decide (x.l < 97) = true := decide_eq_true g3
          refine wp_region_below (by kernel_rfl) (by kernel_rfl) ?_
          repeat (first
            | go_big_quiet_step ((first | (go_at_call 35; first | (with_reducible exact Calls.below_of (V1.out _)) | (with_reducible exact Calls.below_of (V2.out _)))))
            | quiet_step ((first | (go_at_call 35; first | (with_reducible exact Calls.below_of (V1.out _)) | (with_reducible exact Calls.below_of (V2.out _))))))
          refine wpQuiet_nil ?_
          intro _ hw'
          obtain ⟨⟨w5, kk⟩, hw''⟩ := hw'
          subst hw''
          have hb5 := below_step hB3.out kk
          have hbx5 := blk_below kk HBX3.out
          clear b0 b1 y0 y1 y2 w1 d3
          go_wp2
          go_ret
          exact ⟨ret_b2 (HNO.out fun h => by have := h.2.2; simp only [lblB, Bool.and_eq_true, decide_eq_true_eq] at this; omega).symm, hb5⟩
        have d3 : decide (x.l < 97) = false := decide_eq_false g3
        by_cases g4 : 100 < x.l
        · have d4 : decide (100 < x.l) = true := decide_eq_true g4
          refine wp_region_below (by kernel_rfl) (by kernel_rfl) ?_
          repeat (first
            | go_big_quiet_step ((first | (go_at_call 35; first | (with_reducible exact Calls.below_of (V1.out _)) | (with_reducible exact Calls.below_of (V2.out _)))))
            | quiet_step ((first | (go_at_call 35; first | (with_reducible exact Calls.below_of (V1.out _)) | (with_reducible exact Calls.below_of (V2.out _))))))
          refine wpQuiet_nil ?_
          intro _ hw'
          obtain ⟨⟨w5, kk⟩, hw''⟩ := hw'
          subst hw''
          have hb5 := below_step hB3.out kk
          have hbx5 := blk_below kk HBX3.out
          clear b0 b1 y0 y1 y2 w1 d3 d4
          go_wp2
          go_ret
          exact ⟨ret_b2 (HNO.out fun h => by have := h.2.2; simp only [lblB, Bool.and_eq_true, decide_eq_true_eq] at this; omega).symm, hb5⟩
        have d4 : decide (100 < x.l) = false := decide_eq_false g4
        have hed : EdOk s es[k] := by rw [EX.out]; refine ⟨G1.out, G2.out, ?_⟩; simp only [lblB, Bool.and_eq_true, decide_eq_true_eq]; omega
        have HED := Lib.hid hed
        clear hed HNO
        rcases (by omega : k ≤ 0 ∨ 0 < k) with hk0 | hkp
        · have d0 : decide ((0 : Int) < (k : Int)) = false := by simp; omega
          have d1 : decide (0 < k) = false := by simp; omega
          refine wp_region_below (by kernel_rfl) (by kernel_rfl) ?_
          repeat (first
            | go_big_quiet_step ((first | (go_at_call 35; first | (with_reducible exact Calls.below_of (V1.out _)) | (with_reducible exact Calls.below_of (V2.out _)))))
            | quiet_step ((first | (go_at_call 35; first | (with_reducible exact Calls.below_of (V1.out _)) | (with_reducible exact Calls.below_of (V2.out _))))))
          refine wpQuiet_nil ?_
          intro _ hw'
          obtain ⟨⟨w5, kk⟩, hw''⟩ := hw'
          subst hw''
          have hb5 := below_step hB3.out kk
          have hbx5 := blk_below kk HBX3.out
          clear b0 b1 y0 y1 y2 w1 d3 d4 d0 d1
          go_wp2
          go_roundw
          case rel => exact ⟨k + 1, by omega, by go_num, OkTo.next HK.out hlt HED.out (fun j hj => by omega), hbx5, hb5⟩
          case measure => simp [intOf]; omega
        · obtain ⟨j, hj⟩ : ∃ j, k = j + 1 := ⟨k - 1, by omega⟩
          have hjl : j < es.length := by omega
          obtain ⟨b', o', hbo, p0, p1, p2⟩ := HX3.out.at_ hjl
          injection hbo with hbo
          injection hbo with e1 e2 _
          subst e1 e2
          obtain ⟨y, hyy⟩ : ∃ y, es[j] = y := ⟨_, rfl⟩
          rw [hyy] at p0 p1 p2
          have EY := Lib.hid hyy
          clear hyy
          have T := Lib.hid (fun w => spec_l07Less_any y x w)
          unfold Ed.val at T
          obtain ⟨r, hrr⟩ : ∃ r, edLess y x = r := ⟨_, rfl⟩
          rw [hrr] at T
          have HR := Lib.hid hrr
          clear hrr
          have p0 := fun p => cellQ p0 p
          have p1 := fun p => cellQ p1 p
          have p2 := fun p => cellQ p2 p
          have d0 : decide ((0 : Int) < (k : Int)) = true := decide_eq_true (by omega)
          have d1 : decide (0 < k) = true := decide_eq_true (by omega)
          have e3 : (k : Int) - 1 = (j : Int) := by omega
          have e4 : (0 : Int) ≤ (j : Int) := by omega
          have e5 : (j : Int) < (es.length : Int) := by omega
          have e6 : IntKind.i64.wrap ((k : Int) - 1) = (j : Int) := by rw [e3]; exact IntWalk.i64_in _ (by omega)
          have e7 : IntKind.i64.wrap (j : Int) = (j : Int) := IntWalk.i64_in _ (by omega)
          have HJ := Lib.hid hj
          clear hj
          cases r
          · refine wp_region_below (by kernel_rfl) (by kernel_rfl) ?_
            repeat (first
              | go_big_quiet_step ((first | (go_at_call 35; first | (with_reducible exact Calls.below_of (V1.out _)) | (with_reducible exact Calls.below_of (V2.out _))) | (go_at_call 37; exact Calls.below_of (T.out _))))
              | quiet_step ((first | (go_at_call 35; first | (with_reducible exact Calls.below_of (V1.out _)) | (with_reducible exact Calls.below_of (V2.out _))) | (go_at_call 37; exact Calls.below_of (T.out _)))))
            refine wpQuiet_nil ?_
            intro _ hw'
            obtain ⟨⟨w5, kk⟩, hw''⟩ := hw'
            subst hw''
            have hb5 := below_step hB3.out kk
            have hbx5 := blk_below kk HBX3.out
            clear d0 d1 d3 d4 e3 e4 e5 e6 e7 p0 p1 p2 b0 b1 y0 y1 y2 w1
            go_wp2
            go_ret
            refine ⟨ret_b2 (PP_no fun h => ?_).symm, hb5⟩
            have h1 := (h.2.2 k hlt hlt).2 j HJ.out.symm
            rw [EX.out, EY.out, HR.out] at h1
            cases h1
          · refine wp_region_below (by kernel_rfl) (by kernel_rfl) ?_
            repeat (first
              | go_big_quiet_step ((first | (go_at_call 35; first | (with_reducible exact Calls.below_of (V1.out _)) | (with_reducible exact Calls.below_of (V2.out _))) | (go_at_call 37; exact Calls.below_of (T.out _))))
              | quiet_step ((first | (go_at_call 35; first | (with_reducible exact Calls.below_of (V1.out _)) | (with_reducible exact Calls.below_of (V2.out _))) | (go_at_call 37; exact Calls.below_of (T.out _)))))
            refine wpQuiet_nil ?_
            intro _ hw'
            obtain ⟨⟨w5, kk⟩, hw''⟩ := hw'
            subst hw''
            have hb5 := below_step hB3.out kk
            have hbx5 := blk_below kk HBX3.out
            clear d0 d1 d3 d4 e3 e4 e5 e6 e7 p0 p1 p2 b0 b1 y0 y1 y2 w1
            go_wp2
            go_roundw
            case rel =>
              refine ⟨k + 1, by omega, by go_num, OkTo.next HK.out hlt HED.out (fun i hi => ?_), hbx5, hb5⟩
              have hij : i = j := by have := HJ.out; omega
              subst hij
              rw [EX.out, EY.out, HR.out]
            case measure => simp [intOf]; omega
      · obtain rfl : k = es.length := by omega
        go_wp2
        go_ret
        exact ⟨ret_b2 (PP_yes ⟨⟨hs1, hs2⟩, HBL.out, HK.out⟩).symm, hb⟩
  · rw [PP_no (fun h => hg ⟨h.1.1, h.1.2, h.2.1⟩)]
    by_cases hs : 1 ≤ s ∧ s ≤ 24
    · have h3 : (bs.length : Int) ≠ s := fun h => hg ⟨hs.1, hs.2, h⟩
      have nb : ((bs.length : Int) != s) = true := by simpa using h3
      rw [show (decide (1 ≤ s) && decide (s ≤ 24)) = true by simp; omega] at I0
      clear hg h3
      go_enter Try.func17, Try.ntmps17
      go_wp2_with fail
      refine (I0.out _).mono ?_
      rintro e w1 ⟨rfl, rfl⟩
      go_wp2
      go_ret
      exact ⟨rfl, below_alloc _ _⟩
    · rw [show (decide (1 ≤ s) && decide (s ≤ 24)) = false by simp; omega] at I0
      clear hg
      go_enter Try.func17, Try.ntmps17
      go_wp2_with fail
      refine (I0.out _).mono ?_
      rintro e w1 ⟨rfl, rfl⟩
      go_wp2
      go_ret
      exact ⟨rfl, below_alloc _ _⟩
end Go.Proofs.Ytjlekcoikceidaa
