/- SameWords: program and reference return the same, and leave their arguments as they were. No conditions. Printed by xlsame.py. -/
import Derived.Test.YtgpjgigmlgoiiaaSSame
import Derived.Test.YtgpjgigmlgoiiaaNfaLaw
import Derived.Deep.RegionHeld3
namespace Go.Proofs.Ytgpjgigmlgoiiaa
open Go.RowKit
set_option maxRecDepth 100000 in

set_option maxHeartbeats 6400000 in
theorem FnExactSameWords_walk (w : World) (v0 : Value) (s : Int) (es : List Ed) (bs : List Bool) (h0 : NfK w v0 s es bs) (v1 : Value) (t : Int) (es' : List Ed) (bs' : List Bool) (h1 : NfK w v1 t es' bs') :
    Calls Try.prog 4 #[v0, v1] w fun e w' => e = .returned (.bool true) ∧ Below w.heap.size w w' := by
  obtain ⟨_, A, c, B, d, rfl, hx, hy, hlc, hcm, hld, hdm, hok⟩ := h0
  obtain ⟨_, A', c', B', d', rfl, hx', hy', hlc', hcm', hld', hdm', hok'⟩ := h1
  have HL := Lib.hid (fun e he => (hok e he).2.1 : ∀ e ∈ es, 0 ≤ e.l ∧ e.l ≤ 255)
  have HL' := Lib.hid (fun e he => (hok' e he).2.1 : ∀ e ∈ es', 0 ≤ e.l ∧ e.l ≤ 255)
  have HX := Lib.hid hx
  have HY := Lib.hid hy
  have HX' := Lib.hid hx'
  have HY' := Lib.hid hy'
  clear hok hok' hx hy hx' hy'
  unfold maxLen at hcm hdm hcm' hdm'
  obtain ⟨W, hW, p1, p2, bW, hs⟩ := new_two w (.cells #[.int .i64 s, .slice A es.length c, .slice B bs.length d] 25) (.cells #[.int .i64 t, .slice A' es'.length c', .slice B' bs'.length d'] 25)
  have HB := Lib.hid (show HasBox w (.cells #[.int .i64 s, .slice A es.length c, .slice B bs.length d] 25) (.cells #[.int .i64 t, .slice A' es'.length c', .slice B' bs'.length d'] 25) W from ⟨p1, p2, bW⟩)
  clear p1 p2 bW hs
  obtain ⟨r, hr⟩ : ∃ r, swB s t es es' bs bs' = r := ⟨_, rfl⟩
  have HR := Lib.hid hr
  clear hr
  have S0 := Lib.hid (fun w => szNfa_any s A B es.length c bs.length d 1048576 w (by omega) (by omega) (by omega))
  have a0 := blk_cell (o := 0) HB.out.1 rfl
  have a1 := blk_cell (o := 1) HB.out.1 rfl
  have a2 := blk_cell (o := 2) HB.out.1 rfl
  by_cases hb1 : (es.length : Int) + bs.length ≤ 1048576
  · rw [szN_yes hb1] at S0
    have hn : es.length ≤ 4294967296 := by omega
    have hm : bs.length ≤ 4294967296 := by omega
    obtain ⟨lf, hlf⟩ : ∃ lf, (1048576 : Int) - (es.length : Int) - (bs.length : Int) = lf := ⟨_, rfl⟩
    rw [hlf] at S0
    have hlf0 : 0 ≤ lf := by omega
    have hlf1 : lf ≤ 1048576 := by omega
    clear hlf
    have S1 := Lib.hid (fun w => szNfa_any t A' B' es'.length c' bs'.length d' lf w (by omega) (by omega) (by omega))
    go_enter Try.func4, Try.ntmps4
    go_wp2_with fail
    clear hW
    refine (S0.out _).mono ?_
    rintro e w1 ⟨rfl, k1⟩
    have H1 := Lib.hid (HB.out.keep k1)
    clear k1 a0 a1 a2 HB
    have b0 := blk_cell (o := 0) H1.out.2.1 rfl
    have b1 := blk_cell (o := 1) H1.out.2.1 rfl
    have b2 := blk_cell (o := 2) H1.out.2.1 rfl
    by_cases hb2 : (es'.length : Int) + bs'.length ≤ lf
    · rw [szN_yes hb2] at S1
      have hn' : es'.length ≤ 4294967296 := by omega
      have hm' : bs'.length ≤ 4294967296 := by omega
      have hq : decide (lf - (es'.length : Int) - (bs'.length : Int) < 0) = false := decide_eq_false (by omega)
      go_wp2_with fail
      refine (S1.out _).mono ?_
      rintro e w2 ⟨rfl, k2⟩
      have H2 := Lib.hid (H1.out.keep k2)
      clear k2 b0 b1 b2 H1
      have MK := Lib.hid (fun (w' : World) (hB : Below w2.heap.size w2 w') => (⟨blk_cell (o := 0) (blk_below hB H2.out.1) rfl, blk_cell (o := 1) (blk_below hB H2.out.1) rfl, blk_cell (o := 2) (blk_below hB H2.out.1) rfl, blk_cell (o := 0) (blk_below hB H2.out.2.1) rfl, blk_cell (o := 1) (blk_below hB H2.out.2.1) rfl, blk_cell (o := 2) (blk_below hB H2.out.2.1) rfl, hB⟩ : w'.cell? ⟨w.heap.size, 0, none⟩ = some (.int .i64 s) ∧ w'.cell? ⟨w.heap.size, 1, none⟩ = some (.slice A es.length c) ∧ w'.cell? ⟨w.heap.size, 2, none⟩ = some (.slice B bs.length d) ∧ w'.cell? ⟨w.heap.size + 1, 0, none⟩ = some (.int .i64 t) ∧ w'.cell? ⟨w.heap.size + 1, 1, none⟩ = some (.slice A' es'.length c') ∧ w'.cell? ⟨w.heap.size + 1, 2, none⟩ = some (.slice B' bs'.length d') ∧ Below w2.heap.size w2 w'))
      have B0 : Below w2.heap.size w2 w2.drew := (Below.refl _ _).drew
      go_upto_region 8 with fail
      go_cut [6] (fun v wx => CutB w2 r v wx)
      case first =>
        go_region_held3 (fun w' => w'.cell? ⟨w.heap.size, 0, none⟩ = some (.int .i64 s) ∧ w'.cell? ⟨w.heap.size, 1, none⟩ = some (.slice A es.length c) ∧ w'.cell? ⟨w.heap.size, 2, none⟩ = some (.slice B bs.length d) ∧ w'.cell? ⟨w.heap.size + 1, 0, none⟩ = some (.int .i64 t) ∧ w'.cell? ⟨w.heap.size + 1, 1, none⟩ = some (.slice A' es'.length c') ∧ w'.cell? ⟨w.heap.size + 1, 2, none⟩ = some (.slice B' bs'.length d') ∧ Below w2.heap.size w2 w')
          ((first
            | (exact MK.out _ B0)
            | assumption
            | (go_split_ands; exact MK.out _ (below_step (by assumption) hbk))))
          ((first
            | (go_at_call 11; go_split_ands; (with_reducible refine (toNfa_any s A B c d es bs _ (HX.out.below (below_step H2.out.bel (by assumption))) (HY.out.below (below_step H2.out.bel (by assumption))) hn hm).mono ?_); rintro e w' ⟨A3, c3, B3, d3, rfl, o3, o3b, hbk⟩; have r3 := RdE.own o3; have r3b := RdB.own o3b; clear o3 o3b; (try (have r4 := r4.below hbk; have r4b := r4b.below hbk)))
            | (go_at_call 11; go_split_ands; (with_reducible refine (toNfa_any t A' B' c' d' es' bs' _ (HX'.out.below (below_step H2.out.bel (by assumption))) (HY'.out.below (below_step H2.out.bel (by assumption))) hn' hm').mono ?_); rintro e w' ⟨A4, c4, B4, d4, rfl, o4, o4b, hbk⟩; have r4 := RdE.own o4; have r4b := RdB.own o4b; clear o4 o4b; (try (have r3 := r3.below hbk; have r3b := r3b.below hbk)))
            | (go_at_call 16; go_split_ands; refine (spec_SameWords_any s t _ _ _ _ _ _ _ _ es es' bs bs' _ hn hn' hm hm' HL.out HL'.out r3 r3b r4 r4b).mono ?_; rw [HR.out]; rintro e w' ⟨rfl, hbk⟩)))
        all_goals
          go_wp2_with fail
          go_meet
          go_split_ands
          exact ⟨rfl, by assumption⟩
      case rest =>
        clear MK B0
        obtain ⟨rfl, hk3⟩ := hcut
        obtain ⟨w3, rfl⟩ : ∃ w3 : World, w3 = wc := ⟨_, rfl⟩
        have H3 := Lib.hid (H2.out.keep hk3)
        clear hk3 H2
        have b0 := blk_cell (o := 0) H3.out.1 rfl
        have b1 := blk_cell (o := 1) H3.out.1 rfl
        have b2 := blk_cell (o := 2) H3.out.1 rfl
        go_wp2_with fail
        refine (toNfa_any s A B c d es bs w3 (HX.out.below H3.out.2.2) (HY.out.below H3.out.2.2) hn hm).mono ?_
        rintro e w4 ⟨A5, c5, B5, d5, rfl, o5, o5b, k4⟩
        have ka := below_alloc w4 (.cells #[.int .i64 s, .slice A5 es.length c5, .slice B5 bs.length d5] 29)
        have H5 := Lib.hid (H3.out.keep (below_step k4 ka))
        have R5 := Lib.hid ((RdE.own o5).below ka)
        have R5b := Lib.hid ((RdB.own o5b).below ka)
        have q7 := heap_alloc_new w4 (.cells #[.int .i64 s, .slice A5 es.length c5, .slice B5 bs.length d5] 29)
        obtain ⟨g7, hg7⟩ : ∃ g, w4.heap.size = g := ⟨_, rfl⟩
        obtain ⟨W5, hW5⟩ : ∃ W, w4.alloc (.cells #[.int .i64 s, .slice A5 es.length c5, .slice B5 bs.length d5] 29) = W := ⟨_, rfl⟩
        rw [hg7] at q7
        rw [hW5] at q7 H5 R5 R5b
        have Q7 := Lib.hid q7
        clear o5 o5b k4 ka b0 b1 b2 q7 H3
        have b0 := blk_cell (o := 0) H5.out.2.1 rfl
        have b1 := blk_cell (o := 1) H5.out.2.1 rfl
        have b2 := blk_cell (o := 2) H5.out.2.1 rfl
        go_wp2_with fail
        clear hW5 hg7
        refine (toNfa_any t A' B' c' d' es' bs' W5 (HX'.out.below H5.out.2.2) (HY'.out.below H5.out.2.2) hn' hm').mono ?_
        rintro e w6 ⟨A6, c6, B6, d6, rfl, o6, o6b, k6⟩
        have ka := below_alloc w6 (.cells #[.int .i64 t, .slice A6 es'.length c6, .slice B6 bs'.length d6] 29)
        have H7 := Lib.hid (H5.out.keep (below_step k6 ka))
        have R6 := Lib.hid ((RdE.own o6).below ka)
        have R6b := Lib.hid ((RdB.own o6b).below ka)
        have R7 := Lib.hid (R5.out.below (below_step k6 ka))
        have R7b := Lib.hid (R5b.out.below (below_step k6 ka))
        have q8 := heap_alloc_new w6 (.cells #[.int .i64 t, .slice A6 es'.length c6, .slice B6 bs'.length d6] 29)
        have q9 := blk_below (below_step k6 ka) Q7.out
        obtain ⟨g8, hg8⟩ : ∃ g, w6.heap.size = g := ⟨_, rfl⟩
        obtain ⟨W7, hW7⟩ : ∃ W, w6.alloc (.cells #[.int .i64 t, .slice A6 es'.length c6, .slice B6 bs'.length d6] 29) = W := ⟨_, rfl⟩
        rw [hg8] at q8
        rw [hW7] at q8 q9 H7 R6 R6b R7 R7b
        have Q8 := Lib.hid q8
        have Q9 := Lib.hid q9
        clear o6 o6b k6 ka b0 b1 b2 q8 q9 H5 R5 R5b Q7
        have b0 := blk_cell (o := 0) Q9.out rfl
        have b1 := blk_cell (o := 1) Q9.out rfl
        have b2 := blk_cell (o := 2) Q9.out rfl
        have e0 := blk_cell (o := 0) Q8.out rfl
        have e1 := blk_cell (o := 1) Q8.out rfl
        have e2 := blk_cell (o := 2) Q8.out rfl
        go_wp2_with fail
        clear hW7 hg8
        refine (impl_SameWords_any s t A5 B5 A6 B6 c5 d5 c6 d6 es es' bs bs' W7 hn hn' hm hm' HL.out HL'.out R7.out R7b.out R6.out R6b.out).mono ?_
        rw [HR.out]
        rintro e w8 ⟨rfl, k8⟩
        have H8 := Lib.hid (H7.out.keep k8)
        have R8 := Lib.hid (R7.out.below k8)
        have R8b := Lib.hid (R7b.out.below k8)
        have R9 := Lib.hid (R6.out.below k8)
        have R9b := Lib.hid (R6b.out.below k8)
        have QA := Lib.hid (blk_below k8 Q9.out)
        have QB := Lib.hid (blk_below k8 Q8.out)
        clear k8 b0 b1 b2 e0 e1 e2 H7 R7 R7b R6 R6b Q8 Q9
        have hrr : (!(r == r)) = false := by simp
        have hrr2 : (r != r) = false := by simp
        have MK := Lib.hid (fun (w' : World) (hB : Below w8.heap.size w8 w') => (⟨blk_cell (o := 0) (blk_below hB H8.out.1) rfl, blk_cell (o := 1) (blk_below hB H8.out.1) rfl, blk_cell (o := 2) (blk_below hB H8.out.1) rfl, blk_cell (o := 0) (blk_below hB H8.out.2.1) rfl, blk_cell (o := 1) (blk_below hB H8.out.2.1) rfl, blk_cell (o := 2) (blk_below hB H8.out.2.1) rfl, blk_cell (o := 0) (blk_below hB QA.out) rfl, blk_cell (o := 1) (blk_below hB QA.out) rfl, blk_cell (o := 2) (blk_below hB QA.out) rfl, hB⟩ : w'.cell? ⟨w.heap.size, 0, none⟩ = some (.int .i64 s) ∧ w'.cell? ⟨w.heap.size, 1, none⟩ = some (.slice A es.length c) ∧ w'.cell? ⟨w.heap.size, 2, none⟩ = some (.slice B bs.length d) ∧ w'.cell? ⟨w.heap.size + 1, 0, none⟩ = some (.int .i64 t) ∧ w'.cell? ⟨w.heap.size + 1, 1, none⟩ = some (.slice A' es'.length c') ∧ w'.cell? ⟨w.heap.size + 1, 2, none⟩ = some (.slice B' bs'.length d') ∧ w'.cell? ⟨g7, 0, none⟩ = some (.int .i64 s) ∧ w'.cell? ⟨g7, 1, none⟩ = some (.slice A5 es.length c5) ∧ w'.cell? ⟨g7, 2, none⟩ = some (.slice B5 bs.length d5) ∧ Below w8.heap.size w8 w'))
        have B0 : Below w8.heap.size w8 w8.drew := (Below.refl _ _).drew
        go_wp2_with fail
        go_region_held3 (fun w' => w'.cell? ⟨w.heap.size, 0, none⟩ = some (.int .i64 s) ∧ w'.cell? ⟨w.heap.size, 1, none⟩ = some (.slice A es.length c) ∧ w'.cell? ⟨w.heap.size, 2, none⟩ = some (.slice B bs.length d) ∧ w'.cell? ⟨w.heap.size + 1, 0, none⟩ = some (.int .i64 t) ∧ w'.cell? ⟨w.heap.size + 1, 1, none⟩ = some (.slice A' es'.length c') ∧ w'.cell? ⟨w.heap.size + 1, 2, none⟩ = some (.slice B' bs'.length d') ∧ w'.cell? ⟨g7, 0, none⟩ = some (.int .i64 s) ∧ w'.cell? ⟨g7, 1, none⟩ = some (.slice A5 es.length c5) ∧ w'.cell? ⟨g7, 2, none⟩ = some (.slice B5 bs.length d5) ∧ Below w8.heap.size w8 w')
          ((first
            | (exact MK.out _ B0)
            | assumption
            | (go_split_ands; exact MK.out _ (below_step (by assumption) hbk))))
          ((first
            | (go_at_call 11; go_split_ands; (with_reducible refine (toNfa_any s A B c d es bs _ (HX.out.below (below_step H8.out.bel (by assumption))) (HY.out.below (below_step H8.out.bel (by assumption))) hn hm).mono ?_); rintro e w' ⟨A3, c3, B3, d3, rfl, o3, o3b, hbk⟩; have r3 := RdE.own o3; have r3b := RdB.own o3b; clear o3 o3b)
            | (go_at_call 13; go_split_ands; refine (eqNfa_same s A5 B5 _ _ c5 d5 _ _ es bs _ (R8.out.below (by assumption)) r3 (R8b.out.below (by assumption)) r3b hn hm).mono ?_; rintro e w' ⟨rfl, hbk⟩)))
        go_split_ands
        have U : Below w8.heap.size w8 w' := by assumption
        obtain ⟨w9, rfl⟩ : ∃ w9 : World, w9 = w' := ⟨_, rfl⟩
        have H9 := Lib.hid (H8.out.keep U)
        have RA := Lib.hid (R9.out.below U)
        have RAb := Lib.hid (R9b.out.below U)
        have QC := Lib.hid (blk_below U QB.out)
        clear R8 R8b QA R9 R9b QB H8
        have MK := Lib.hid (fun (w' : World) (hB : Below w9.heap.size w9 w') => (⟨blk_cell (o := 0) (blk_below hB H9.out.1) rfl, blk_cell (o := 1) (blk_below hB H9.out.1) rfl, blk_cell (o := 2) (blk_below hB H9.out.1) rfl, blk_cell (o := 0) (blk_below hB H9.out.2.1) rfl, blk_cell (o := 1) (blk_below hB H9.out.2.1) rfl, blk_cell (o := 2) (blk_below hB H9.out.2.1) rfl, blk_cell (o := 0) (blk_below hB QC.out) rfl, blk_cell (o := 1) (blk_below hB QC.out) rfl, blk_cell (o := 2) (blk_below hB QC.out) rfl, hB⟩ : w'.cell? ⟨w.heap.size, 0, none⟩ = some (.int .i64 s) ∧ w'.cell? ⟨w.heap.size, 1, none⟩ = some (.slice A es.length c) ∧ w'.cell? ⟨w.heap.size, 2, none⟩ = some (.slice B bs.length d) ∧ w'.cell? ⟨w.heap.size + 1, 0, none⟩ = some (.int .i64 t) ∧ w'.cell? ⟨w.heap.size + 1, 1, none⟩ = some (.slice A' es'.length c') ∧ w'.cell? ⟨w.heap.size + 1, 2, none⟩ = some (.slice B' bs'.length d') ∧ w'.cell? ⟨g8, 0, none⟩ = some (.int .i64 t) ∧ w'.cell? ⟨g8, 1, none⟩ = some (.slice A6 es'.length c6) ∧ w'.cell? ⟨g8, 2, none⟩ = some (.slice B6 bs'.length d6) ∧ Below w9.heap.size w9 w'))
        have B0 : Below w9.heap.size w9 w9.drew := (Below.refl _ _).drew
        go_wp2_with fail
        go_region_held3 (fun w' => w'.cell? ⟨w.heap.size, 0, none⟩ = some (.int .i64 s) ∧ w'.cell? ⟨w.heap.size, 1, none⟩ = some (.slice A es.length c) ∧ w'.cell? ⟨w.heap.size, 2, none⟩ = some (.slice B bs.length d) ∧ w'.cell? ⟨w.heap.size + 1, 0, none⟩ = some (.int .i64 t) ∧ w'.cell? ⟨w.heap.size + 1, 1, none⟩ = some (.slice A' es'.length c') ∧ w'.cell? ⟨w.heap.size + 1, 2, none⟩ = some (.slice B' bs'.length d') ∧ w'.cell? ⟨g8, 0, none⟩ = some (.int .i64 t) ∧ w'.cell? ⟨g8, 1, none⟩ = some (.slice A6 es'.length c6) ∧ w'.cell? ⟨g8, 2, none⟩ = some (.slice B6 bs'.length d6) ∧ Below w9.heap.size w9 w')
          ((first
            | (exact MK.out _ B0)
            | assumption
            | (go_split_ands; exact MK.out _ (below_step (by assumption) hbk))))
          ((first
            | (go_at_call 11; go_split_ands; (with_reducible refine (toNfa_any t A' B' c' d' es' bs' _ (HX'.out.below (below_step H9.out.bel (by assumption))) (HY'.out.below (below_step H9.out.bel (by assumption))) hn' hm').mono ?_); rintro e w' ⟨A4, c4, B4, d4, rfl, o4, o4b, hbk⟩; have r4 := RdE.own o4; have r4b := RdB.own o4b; clear o4 o4b)
            | (go_at_call 13; go_split_ands; refine (eqNfa_same t A6 B6 _ _ c6 d6 _ _ es' bs' _ (RA.out.below (by assumption)) r4 (RAb.out.below (by assumption)) r4b hn' hm').mono ?_; rintro e w' ⟨rfl, hbk⟩)))
        go_split_ands
        have U : Below w9.heap.size w9 w' := by assumption
        go_wp2
        go_ret
        exact ⟨rfl, below_step H9.out.bel U⟩
    · rw [szN_no hb2] at S1
      go_wp2_with fail
      refine (S1.out _).mono ?_
      rintro e w2 ⟨rfl, k2⟩
      go_wp2
      go_ret
      exact ⟨rfl, below_step H1.out.bel k2⟩
  · rw [szN_no hb1] at S0
    go_enter Try.func4, Try.ntmps4
    go_wp2_with fail
    refine (S0.out _).mono ?_
    rintro e w1 ⟨rfl, k1⟩
    go_wp2
    go_ret
    exact ⟨rfl, below_step HB.out.bel k1⟩
end Go.Proofs.Ytgpjgigmlgoiiaa
