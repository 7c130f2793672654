/- SameQuery: program and reference return the same, and leave their arguments as they were. No conditions. Printed by xlsameq.py. -/
import Derived.Test.YtlnphcongijfiaaSameQ2
import Derived.Test.YtlnphcongijfiaaBox
import Derived.Deep.RegionHeld3
import Derived.Deep.DeepCutAuto
namespace Go.Proofs.Ytlnphcongijfiaa
open Go.RowKit

theorem eqQuery_same (ea : Bool) (A B C A' B' C' : Option Addr) (c d f c' d' f' : Nat) (os : List ByteArray) (as_ : List At) (fs : List Fl) (w : World) (hx : RdQ w A B C os as_ fs) (hy : RdQ w A' B' C' os as_ fs) (hn : os.length ≤ 4294967296) (hm : as_.length ≤ 4294967296) (hf : fs.length ≤ 4294967296) :
    Calls Try.prog 12 #[.agg #[.bool ea, .slice A os.length c, .slice B as_.length d, .slice C fs.length f], .agg #[.bool ea, .slice A' os.length c', .slice B' as_.length d', .slice C' fs.length f']] w fun e w' => e = .returned (.bool true) ∧ Below w.heap.size w w' := by
  refine (eqQuery_any ea ea A B C A' B' C' c d f c' d' f' os os as_ as_ fs fs w hx hy hn ⟨hm, hm⟩ ⟨hf, hf⟩).mono ?_
  rintro e w1 ⟨rfl, hb⟩
  exact ⟨by rw [PP_yes ⟨rfl, rfl, rfl, rfl⟩], hb⟩

set_option maxRecDepth 100000 in
set_option maxHeartbeats 6400000 in
theorem FnExactSameQuery_walk (w : World) (v0 : Value) (ea : Bool) (os : List ByteArray) (as_ : List At) (fs : List Fl) (h0 : QrK w v0 ea os as_ fs) (v1 : Value) (eb : Bool) (os' : List ByteArray) (as' : List At) (fs' : List Fl) (h1 : QrK w v1 eb os' as' fs') :
    Calls Try.prog 3 #[v0, v1] w fun e w' => e = .returned (.bool true) ∧ Below w.heap.size w w' := by
  obtain ⟨A, c, B, d, C, f, rfl, hx, hok, hl1, hl2, hl3⟩ := h0
  obtain ⟨A', c', B', d', C', f', rfl, hx', hok', hl1', hl2', hl3'⟩ := h1
  have HX := Lib.hid hx
  have HX' := Lib.hid hx'
  have S0 := Lib.hid (fun w h => szQuery_any ea A B C c d f os as_ fs 1048576 w h hok (by omega) ⟨hl1, hl2, hl3⟩)
  have S1f := Lib.hid (fun lf w h (hm : 0 ≤ lf ∧ lf ≤ 4611686018427387904) => szQuery_any eb A' B' C' c' d' f' os' as' fs' lf w h hok' hm ⟨hl1', hl2', hl3'⟩)
  clear hx hx' hok hok'
  obtain ⟨W, hW, p1, p2, bW, hs⟩ := new_two w (.cells #[.bool ea, .slice A os.length c, .slice B as_.length d, .slice C fs.length f] 26) (.cells #[.bool eb, .slice A' os'.length c', .slice B' as'.length d', .slice C' fs'.length f'] 26)
  have HB := Lib.hid (show HasBox w (.cells #[.bool ea, .slice A os.length c, .slice B as_.length d, .slice C fs.length f] 26) (.cells #[.bool eb, .slice A' os'.length c', .slice B' as'.length d', .slice C' fs'.length f'] 26) W from ⟨p1, p2, bW⟩)
  clear p1 p2 bW hs
  obtain ⟨r, hr⟩ : ∃ r, PP (sqP ea eb os os' as_ as' fs fs') = r := ⟨_, rfl⟩
  have HR := Lib.hid hr
  clear hr
  have HT : Hid (totQ os as_ fs = os.length + totS os + (as_.length + totA_ as_) + (fs.length + totF_ fs)) := Lib.hid rfl
  have HT' : Hid (totQ os' as' fs' = os'.length + totS os' + (as'.length + totA_ as') + (fs'.length + totF_ fs')) := Lib.hid rfl
  obtain ⟨t, htt⟩ : ∃ t, totQ os as_ fs = t := ⟨_, rfl⟩
  obtain ⟨t', htt'⟩ : ∃ t, totQ os' as' fs' = t := ⟨_, rfl⟩
  rw [htt] at S0 HT
  rw [htt'] at S1f HT'
  clear htt htt'
  have a0 := blk_cell (o := 0) HB.out.1 rfl
  have a1 := blk_cell (o := 1) HB.out.1 rfl
  have a2 := blk_cell (o := 2) HB.out.1 rfl
  have a3 := blk_cell (o := 3) HB.out.1 rfl
  by_cases hb1 : (t : Int) ≤ 1048576
  · rw [show szT t 1048576 = 1048576 - t by unfold szT; rw [if_pos hb1]] at S0
    have hn : os.length ≤ 4294967296 := by have := HT.out; omega
    have hm : as_.length ≤ 4294967296 := by have := HT.out; omega
    have hf : fs.length ≤ 4294967296 := by have := HT.out; omega
    obtain ⟨lf, hlf⟩ : ∃ lf, (1048576 : Int) - (t : Int) = lf := ⟨_, rfl⟩
    rw [hlf] at S0
    have hlf0 : 0 ≤ lf := by omega
    have hlf1 : lf ≤ 1048576 := by omega
    have S1 := Lib.hid (fun w h => S1f.out lf w h (by omega))
    clear hlf S1f
    go_enter Try.func3, Try.ntmps3
    go_wp2_with fail
    clear hW
    refine (S0.out _ (HX.out.below HB.out.bel)).mono ?_
    rintro e w1 ⟨rfl, k1⟩
    have H1 := Lib.hid (HB.out.keep k1)
    clear k1 a0 a1 a2 a3 HB
    have b0 := blk_cell (o := 0) H1.out.2.1 rfl
    have b1 := blk_cell (o := 1) H1.out.2.1 rfl
    have b2 := blk_cell (o := 2) H1.out.2.1 rfl
    have b3 := blk_cell (o := 3) H1.out.2.1 rfl
    by_cases hb2 : (t' : Int) ≤ lf
    · rw [show szT t' lf = lf - t' by unfold szT; rw [if_pos hb2]] at S1
      have hn' : os'.length ≤ 4294967296 := by have := HT'.out; omega
      have hm' : as'.length ≤ 4294967296 := by have := HT'.out; omega
      have hf' : fs'.length ≤ 4294967296 := by have := HT'.out; omega
      have hq : decide (lf - (t' : Int) < 0) = false := decide_eq_false (by omega)
      go_wp2_with fail
      refine (S1.out _ (HX'.out.below H1.out.bel)).mono ?_
      rintro e w2 ⟨rfl, k2⟩
      have H2 := Lib.hid (H1.out.keep k2)
      clear k2 b0 b1 b2 b3 H1
      have MK := Lib.hid (fun (w' : World) (hB : Below w2.heap.size w2 w') => (⟨blk_cell (o := 0) (blk_below hB H2.out.1) rfl, blk_cell (o := 1) (blk_below hB H2.out.1) rfl, blk_cell (o := 2) (blk_below hB H2.out.1) rfl, blk_cell (o := 3) (blk_below hB H2.out.1) rfl, blk_cell (o := 0) (blk_below hB H2.out.2.1) rfl, blk_cell (o := 1) (blk_below hB H2.out.2.1) rfl, blk_cell (o := 2) (blk_below hB H2.out.2.1) rfl, blk_cell (o := 3) (blk_below hB H2.out.2.1) rfl, hB⟩ : w'.cell? ⟨w.heap.size, 0, none⟩ = some (.bool ea) ∧ w'.cell? ⟨w.heap.size, 1, none⟩ = some (.slice A os.length c) ∧ w'.cell? ⟨w.heap.size, 2, none⟩ = some (.slice B as_.length d) ∧ w'.cell? ⟨w.heap.size, 3, none⟩ = some (.slice C fs.length f) ∧ w'.cell? ⟨w.heap.size + 1, 0, none⟩ = some (.bool eb) ∧ w'.cell? ⟨w.heap.size + 1, 1, none⟩ = some (.slice A' os'.length c') ∧ w'.cell? ⟨w.heap.size + 1, 2, none⟩ = some (.slice B' as'.length d') ∧ w'.cell? ⟨w.heap.size + 1, 3, none⟩ = some (.slice C' fs'.length f') ∧ Below w2.heap.size w2 w'))
      have B0 : Below w2.heap.size w2 w2.drew := (Below.refl _ _).drew
      go_upto_region 8 with fail
      go_cut [6] (fun v wx => CutB w2 r v wx)
      case first =>
        go_region_held3 (fun w' => w'.cell? ⟨w.heap.size, 0, none⟩ = some (.bool ea) ∧ w'.cell? ⟨w.heap.size, 1, none⟩ = some (.slice A os.length c) ∧ w'.cell? ⟨w.heap.size, 2, none⟩ = some (.slice B as_.length d) ∧ w'.cell? ⟨w.heap.size, 3, none⟩ = some (.slice C fs.length f) ∧ w'.cell? ⟨w.heap.size + 1, 0, none⟩ = some (.bool eb) ∧ w'.cell? ⟨w.heap.size + 1, 1, none⟩ = some (.slice A' os'.length c') ∧ w'.cell? ⟨w.heap.size + 1, 2, none⟩ = some (.slice B' as'.length d') ∧ w'.cell? ⟨w.heap.size + 1, 3, none⟩ = some (.slice C' fs'.length f') ∧ Below w2.heap.size w2 w')
          ((first
            | (exact MK.out _ B0)
            | assumption
            | (go_split_ands; exact MK.out _ (below_step (by assumption) hbk))))
          ((first
            | (go_at_call 10; go_split_ands; (with_reducible refine (toQuery_any ea A B C c d f os as_ fs _ (HX.out.below (below_step H2.out.bel (by assumption))) hn hm hf).mono ?_); rintro e w' ⟨A3, c3, B3, d3, C3, f3, rfl, o3, hbk⟩; have r3 := o3.rd; clear o3; (try (have r4 := r4.below hbk)))
            | (go_at_call 10; go_split_ands; (with_reducible refine (toQuery_any eb A' B' C' c' d' f' os' as' fs' _ (HX'.out.below (below_step H2.out.bel (by assumption))) hn' hm' hf').mono ?_); rintro e w' ⟨A4, c4, B4, d4, C4, f4, rfl, o4, hbk⟩; have r4 := o4.rd; clear o4; (try (have r3 := r3.below hbk)))
            | (go_at_call 9; go_split_ands; refine (spec_SameQuery_any ea eb _ _ _ _ _ _ _ _ _ _ _ _ os os' as_ as' fs fs' _ r3 r4 hn ⟨hm, hm'⟩ ⟨hf, hf'⟩).mono ?_; rw [HR.out]; rintro e w' ⟨rfl, hbk⟩)))
        all_goals
          go_wp2_with fail
          go_meet
          go_split_ands
          exact ⟨rfl, by assumption⟩
      case rest =>
        clear MK B0
        obtain ⟨rfl, hk3⟩ := hcut
        obtain ⟨w3, rfl⟩ : ∃ w3 : World, w3 = wc := ⟨_, rfl⟩
        have H3 := Lib.hid (H2.out.keep hk3)
        clear hk3 H2
        have b0 := blk_cell (o := 0) H3.out.1 rfl
        have b1 := blk_cell (o := 1) H3.out.1 rfl
        have b2 := blk_cell (o := 2) H3.out.1 rfl
        have b3 := blk_cell (o := 3) H3.out.1 rfl
        go_wp2_with fail
        refine (toQuery_any ea A B C c d f os as_ fs w3 (HX.out.below H3.out.bel) hn hm hf).mono ?_
        rintro e w4 ⟨A5, c5, B5, d5, C5, f5, rfl, o5, k4⟩
        have ka := below_alloc w4 (.cells #[.bool ea, .slice A5 os.length c5, .slice B5 as_.length d5, .slice C5 fs.length f5] 32)
        have H5 := Lib.hid (H3.out.keep (below_step k4 ka))
        have R5 := Lib.hid (o5.rd.below ka)
        have q7 := heap_alloc_new w4 (.cells #[.bool ea, .slice A5 os.length c5, .slice B5 as_.length d5, .slice C5 fs.length f5] 32)
        obtain ⟨g7, hg7⟩ : ∃ g, w4.heap.size = g := ⟨_, rfl⟩
        obtain ⟨W5, hW5⟩ : ∃ W, w4.alloc (.cells #[.bool ea, .slice A5 os.length c5, .slice B5 as_.length d5, .slice C5 fs.length f5] 32) = W := ⟨_, rfl⟩
        rw [hg7] at q7
        rw [hW5] at q7 H5 R5
        have Q7 := Lib.hid q7
        clear o5 k4 ka b0 b1 b2 b3 q7 H3
        have b0 := blk_cell (o := 0) H5.out.2.1 rfl
        have b1 := blk_cell (o := 1) H5.out.2.1 rfl
        have b2 := blk_cell (o := 2) H5.out.2.1 rfl
        have b3 := blk_cell (o := 3) H5.out.2.1 rfl
        go_wp2_with fail
        clear hW5 hg7
        refine (toQuery_any eb A' B' C' c' d' f' os' as' fs' W5 (HX'.out.below H5.out.bel) hn' hm' hf').mono ?_
        rintro e w6 ⟨A6, c6, B6, d6, C6, f6, rfl, o6, k6⟩
        have ka := below_alloc w6 (.cells #[.bool eb, .slice A6 os'.length c6, .slice B6 as'.length d6, .slice C6 fs'.length f6] 32)
        have H7 := Lib.hid (H5.out.keep (below_step k6 ka))
        have R6 := Lib.hid (o6.rd.below ka)
        have R7 := Lib.hid (R5.out.below (below_step k6 ka))
        have q8 := heap_alloc_new w6 (.cells #[.bool eb, .slice A6 os'.length c6, .slice B6 as'.length d6, .slice C6 fs'.length f6] 32)
        have q9 := blk_below (below_step k6 ka) Q7.out
        obtain ⟨g8, hg8⟩ : ∃ g, w6.heap.size = g := ⟨_, rfl⟩
        obtain ⟨W7, hW7⟩ : ∃ W, w6.alloc (.cells #[.bool eb, .slice A6 os'.length c6, .slice B6 as'.length d6, .slice C6 fs'.length f6] 32) = W := ⟨_, rfl⟩
        rw [hg8] at q8
        rw [hW7] at q8 q9 H7 R6 R7
        have Q8 := Lib.hid q8
        have Q9 := Lib.hid q9
        clear o6 k6 ka b0 b1 b2 b3 q8 q9 H5 R5 Q7
        have b0 := blk_cell (o := 0) Q9.out rfl
        have b1 := blk_cell (o := 1) Q9.out rfl
        have b2 := blk_cell (o := 2) Q9.out rfl
        have b3 := blk_cell (o := 3) Q9.out rfl
        have e0 := blk_cell (o := 0) Q8.out rfl
        have e1 := blk_cell (o := 1) Q8.out rfl
        have e2 := blk_cell (o := 2) Q8.out rfl
        have e3 := blk_cell (o := 3) Q8.out rfl
        go_wp2_with fail
        clear hW7 hg8
        refine (impl_SameQuery_any ea eb A5 B5 C5 A6 B6 C6 c5 d5 f5 c6 d6 f6 os os' as_ as' fs fs' W7 R7.out R6.out hn ⟨hm, hm'⟩ ⟨hf, hf'⟩).mono ?_
        rw [HR.out]
        rintro e w8 ⟨rfl, k8⟩
        have H8 := Lib.hid (H7.out.keep k8)
        have R8 := Lib.hid (R7.out.below k8)
        have R9 := Lib.hid (R6.out.below k8)
        have QA := Lib.hid (blk_below k8 Q9.out)
        have QB := Lib.hid (blk_below k8 Q8.out)
        clear k8 b0 b1 b2 b3 e0 e1 e2 e3 H7 R7 R6 Q8 Q9
        have hrr : (!(r == r)) = false := by simp
        have hrr2 : (r != r) = false := by simp
        have MK := Lib.hid (fun (w' : World) (hB : Below w8.heap.size w8 w') => (⟨blk_cell (o := 0) (blk_below hB H8.out.1) rfl, blk_cell (o := 1) (blk_below hB H8.out.1) rfl, blk_cell (o := 2) (blk_below hB H8.out.1) rfl, blk_cell (o := 3) (blk_below hB H8.out.1) rfl, blk_cell (o := 0) (blk_below hB H8.out.2.1) rfl, blk_cell (o := 1) (blk_below hB H8.out.2.1) rfl, blk_cell (o := 2) (blk_below hB H8.out.2.1) rfl, blk_cell (o := 3) (blk_below hB H8.out.2.1) rfl, blk_cell (o := 0) (blk_below hB QA.out) rfl, blk_cell (o := 1) (blk_below hB QA.out) rfl, blk_cell (o := 2) (blk_below hB QA.out) rfl, blk_cell (o := 3) (blk_below hB QA.out) rfl, hB⟩ : w'.cell? ⟨w.heap.size, 0, none⟩ = some (.bool ea) ∧ w'.cell? ⟨w.heap.size, 1, none⟩ = some (.slice A os.length c) ∧ w'.cell? ⟨w.heap.size, 2, none⟩ = some (.slice B as_.length d) ∧ w'.cell? ⟨w.heap.size, 3, none⟩ = some (.slice C fs.length f) ∧ w'.cell? ⟨w.heap.size + 1, 0, none⟩ = some (.bool eb) ∧ w'.cell? ⟨w.heap.size + 1, 1, none⟩ = some (.slice A' os'.length c') ∧ w'.cell? ⟨w.heap.size + 1, 2, none⟩ = some (.slice B' as'.length d') ∧ w'.cell? ⟨w.heap.size + 1, 3, none⟩ = some (.slice C' fs'.length f') ∧ w'.cell? ⟨g7, 0, none⟩ = some (.bool ea) ∧ w'.cell? ⟨g7, 1, none⟩ = some (.slice A5 os.length c5) ∧ w'.cell? ⟨g7, 2, none⟩ = some (.slice B5 as_.length d5) ∧ w'.cell? ⟨g7, 3, none⟩ = some (.slice C5 fs.length f5) ∧ Below w8.heap.size w8 w'))
        have B0 : Below w8.heap.size w8 w8.drew := (Below.refl _ _).drew
        go_wp2_with fail
        go_region_held3 (fun w' => w'.cell? ⟨w.heap.size, 0, none⟩ = some (.bool ea) ∧ w'.cell? ⟨w.heap.size, 1, none⟩ = some (.slice A os.length c) ∧ w'.cell? ⟨w.heap.size, 2, none⟩ = some (.slice B as_.length d) ∧ w'.cell? ⟨w.heap.size, 3, none⟩ = some (.slice C fs.length f) ∧ w'.cell? ⟨w.heap.size + 1, 0, none⟩ = some (.bool eb) ∧ w'.cell? ⟨w.heap.size + 1, 1, none⟩ = some (.slice A' os'.length c') ∧ w'.cell? ⟨w.heap.size + 1, 2, none⟩ = some (.slice B' as'.length d') ∧ w'.cell? ⟨w.heap.size + 1, 3, none⟩ = some (.slice C' fs'.length f') ∧ w'.cell? ⟨g7, 0, none⟩ = some (.bool ea) ∧ w'.cell? ⟨g7, 1, none⟩ = some (.slice A5 os.length c5) ∧ w'.cell? ⟨g7, 2, none⟩ = some (.slice B5 as_.length d5) ∧ w'.cell? ⟨g7, 3, none⟩ = some (.slice C5 fs.length f5) ∧ Below w8.heap.size w8 w')
          ((first
            | (exact MK.out _ B0)
            | assumption
            | (go_split_ands; exact MK.out _ (below_step (by assumption) hbk))))
          ((first
            | (go_at_call 10; go_split_ands; (with_reducible refine (toQuery_any ea A B C c d f os as_ fs _ (HX.out.below (below_step H8.out.bel (by assumption))) hn hm hf).mono ?_); rintro e w' ⟨A3, c3, B3, d3, C3, f3, rfl, o3, hbk⟩; have r3 := o3.rd; clear o3)
            | (go_at_call 12; go_split_ands; refine (eqQuery_same ea A5 B5 C5 _ _ _ c5 d5 f5 _ _ _ os as_ fs _ (R8.out.below (by assumption)) r3 hn hm hf).mono ?_; rintro e w' ⟨rfl, hbk⟩)))
        go_split_ands
        have U : Below w8.heap.size w8 w' := by assumption
        obtain ⟨w9, rfl⟩ : ∃ w9 : World, w9 = w' := ⟨_, rfl⟩
        have H9 := Lib.hid (H8.out.keep U)
        have RA := Lib.hid (R9.out.below U)
        have QC := Lib.hid (blk_below U QB.out)
        clear R8 QA R9 QB H8
        have MK := Lib.hid (fun (w' : World) (hB : Below w9.heap.size w9 w') => (⟨blk_cell (o := 0) (blk_below hB H9.out.1) rfl, blk_cell (o := 1) (blk_below hB H9.out.1) rfl, blk_cell (o := 2) (blk_below hB H9.out.1) rfl, blk_cell (o := 3) (blk_below hB H9.out.1) rfl, blk_cell (o := 0) (blk_below hB H9.out.2.1) rfl, blk_cell (o := 1) (blk_below hB H9.out.2.1) rfl, blk_cell (o := 2) (blk_below hB H9.out.2.1) rfl, blk_cell (o := 3) (blk_below hB H9.out.2.1) rfl, blk_cell (o := 0) (blk_below hB QC.out) rfl, blk_cell (o := 1) (blk_below hB QC.out) rfl, blk_cell (o := 2) (blk_below hB QC.out) rfl, blk_cell (o := 3) (blk_below hB QC.out) rfl, hB⟩ : w'.cell? ⟨w.heap.size, 0, none⟩ = some (.bool ea) ∧ w'.cell? ⟨w.heap.size, 1, none⟩ = some (.slice A os.length c) ∧ w'.cell? ⟨w.heap.size, 2, none⟩ = some (.slice B as_.length d) ∧ w'.cell? ⟨w.heap.size, 3, none⟩ = some (.slice C fs.length f) ∧ w'.cell? ⟨w.heap.size + 1, 0, none⟩ = some (.bool eb) ∧ w'.cell? ⟨w.heap.size + 1, 1, none⟩ = some (.slice A' os'.length c') ∧ w'.cell? ⟨w.heap.size + 1, 2, none⟩ = some (.slice B' as'.length d') ∧ w'.cell? ⟨w.heap.size + 1, 3, none⟩ = some (.slice C' fs'.length f') ∧ w'.cell? ⟨g8, 0, none⟩ = some (.bool eb) ∧ w'.cell? ⟨g8, 1, none⟩ = some (.slice A6 os'.length c6) ∧ w'.cell? ⟨g8, 2, none⟩ = some (.slice B6 as'.length d6) ∧ w'.cell? ⟨g8, 3, none⟩ = some (.slice C6 fs'.length f6) ∧ Below w9.heap.size w9 w'))
        have B0 : Below w9.heap.size w9 w9.drew := (Below.refl _ _).drew
        go_wp2_with fail
        go_region_held3 (fun w' => w'.cell? ⟨w.heap.size, 0, none⟩ = some (.bool ea) ∧ w'.cell? ⟨w.heap.size, 1, none⟩ = some (.slice A os.length c) ∧ w'.cell? ⟨w.heap.size, 2, none⟩ = some (.slice B as_.length d) ∧ w'.cell? ⟨w.heap.size, 3, none⟩ = some (.slice C fs.length f) ∧ w'.cell? ⟨w.heap.size + 1, 0, none⟩ = some (.bool eb) ∧ w'.cell? ⟨w.heap.size + 1, 1, none⟩ = some (.slice A' os'.length c') ∧ w'.cell? ⟨w.heap.size + 1, 2, none⟩ = some (.slice B' as'.length d') ∧ w'.cell? ⟨w.heap.size + 1, 3, none⟩ = some (.slice C' fs'.length f') ∧ w'.cell? ⟨g8, 0, none⟩ = some (.bool eb) ∧ w'.cell? ⟨g8, 1, none⟩ = some (.slice A6 os'.length c6) ∧ w'.cell? ⟨g8, 2, none⟩ = some (.slice B6 as'.length d6) ∧ w'.cell? ⟨g8, 3, none⟩ = some (.slice C6 fs'.length f6) ∧ Below w9.heap.size w9 w')
          ((first
            | (exact MK.out _ B0)
            | assumption
            | (go_split_ands; exact MK.out _ (below_step (by assumption) hbk))))
          ((first
            | (go_at_call 10; go_split_ands; (with_reducible refine (toQuery_any eb A' B' C' c' d' f' os' as' fs' _ (HX'.out.below (below_step H9.out.bel (by assumption))) hn' hm' hf').mono ?_); rintro e w' ⟨A4, c4, B4, d4, C4, f4, rfl, o4, hbk⟩; have r4 := o4.rd; clear o4)
            | (go_at_call 12; go_split_ands; refine (eqQuery_same eb A6 B6 C6 _ _ _ c6 d6 f6 _ _ _ os' as' fs' _ (RA.out.below (by assumption)) r4 hn' hm' hf').mono ?_; rintro e w' ⟨rfl, hbk⟩)))
        go_split_ands
        have U : Below w9.heap.size w9 w' := by assumption
        go_wp2
        go_ret
        exact ⟨rfl, below_step H9.out.bel U⟩
    · rw [show szT t' lf = -1 by unfold szT; rw [if_neg hb2]] at S1
      go_wp2_with fail
      refine (S1.out _ (HX'.out.below H1.out.bel)).mono ?_
      rintro e w2 ⟨rfl, k2⟩
      go_wp2
      go_ret
      exact ⟨rfl, below_step H1.out.bel k2⟩
  · rw [show szT t 1048576 = -1 by unfold szT; rw [if_neg hb1]] at S0
    go_enter Try.func3, Try.ntmps3
    go_wp2_with fail
    refine (S0.out _ (HX.out.below HB.out.bel)).mono ?_
    rintro e w1 ⟨rfl, k1⟩
    go_wp2
    go_ret
    exact ⟨rfl, below_step HB.out.bel k1⟩
end Go.Proofs.Ytlnphcongijfiaa
