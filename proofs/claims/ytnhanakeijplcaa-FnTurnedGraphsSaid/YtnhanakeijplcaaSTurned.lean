/- Turned: the reference's function. Conditions: the labels' range and the size of a length. -/
import Derived.Test.YtnhanakeijplcaaTurnE
import Derived.Test.YtnhanakeijplcaaSAdd
import Derived.Test.YtnhanakeijplcaaSGraphOk
import Derived.Test.YtnhanakeijplcaaBlk
namespace Go.Proofs.Ytnhanakeijplcaa
open Go.RowKit

theorem putsE_next {es : List Ed} {k : Nat} (h : k < es.length) : putsE (es.take (k + 1)) = putE (putsE (es.take k)) es[k] := by
  rw [putsE, List.take_succ_eq_append_getElem h, List.foldl_append]
  rfl
theorem putsE_len : ∀ (es out : List Ed), (es.foldl putE out).length ≤ out.length + es.length
  | [], out => by simp
  | z :: es, out => by
    have h1 := putsE_len es (putE out z)
    have h2 := (put_len out z).1
    simp
    omega

set_option maxRecDepth 100000 in
set_option maxHeartbeats 6400000 in
theorem spec_Turned_any (s : Int) (A : Option Addr) (c : Nat) (es : List Ed) (w : World) (hx : RdE w A es) (hn : es.length ≤ 1073741824) (hl : ∀ e ∈ es, 0 ≤ e.l ∧ e.l ≤ 255) :
    Calls Try.prog 31 #[.agg #[.int .i64 s, .slice A es.length c]] w (MadeG w s (tuL s es)) := by
  have G := Lib.hid (fun w hx => spec_GraphOk_any s A c es w hx (by omega) hl)
  have p1 := blk_below (below_alloc _ (.cells #[.int .i64 0, .slice none 0 0] 26)) (heap_alloc_new w (.cells #[.int .i64 s, .slice A es.length c] 26))
  have p2 : ((w.alloc (.cells #[.int .i64 s, .slice A es.length c] 26)).alloc (.cells #[.int .i64 0, .slice none 0 0] 26)).heap[w.heap.size + 1]? = some (.cells #[.int .i64 0, .slice none 0 0] 26 (0, 0)) := by
    have := heap_alloc_new (w.alloc (.cells #[.int .i64 s, .slice A es.length c] 26)) (.cells #[.int .i64 0, .slice none 0 0] 26)
    simpa using this
  have B2 : Below w.heap.size w ((w.alloc (.cells #[.int .i64 s, .slice A es.length c] 26)).alloc (.cells #[.int .i64 0, .slice none 0 0] 26)) := below_step (below_alloc _ _) (below_alloc _ _)
  have hs2 : ((w.alloc (.cells #[.int .i64 s, .slice A es.length c] 26)).alloc (.cells #[.int .i64 0, .slice none 0 0] 26)).heap.size = w.heap.size + 2 := by simp
  obtain ⟨W, hW⟩ : ∃ W, (w.alloc (.cells #[.int .i64 s, .slice A es.length c] 26)).alloc (.cells #[.int .i64 0, .slice none 0 0] 26) = W := ⟨_, rfl⟩
  rw [hW] at p1 p2 B2 hs2
  have a0 : W.cell? ⟨w.heap.size, 0, none⟩ = some (.int .i64 s) := blk_cell (w := W) (o := 0) p1 rfl
  have a1 : W.cell? ⟨w.heap.size, 1, none⟩ = some (.slice A es.length c) := blk_cell (w := W) (o := 1) p1 rfl
  have P1 := Lib.hid p1
  have P2 := Lib.hid p2
  have BW := Lib.hid B2
  have HS := Lib.hid hs2
  have HX := Lib.hid hx
  have HX1 := Lib.hid (hx.below B2)
  have HL := Lib.hid hl
  clear p1 p2 B2 hs2 hx hl
  go_enter Try.func31, Try.ntmps31
  go_wp2_with fail
  refine (G.out W HX1.out).mono ?_
  clear hW
  obtain ⟨ok, hok⟩ : ∃ ok, PP (GOk s es) = ok := ⟨_, rfl⟩
  rw [hok]
  have HOK := Lib.hid hok
  rintro e w4 ⟨rfl, k4⟩
  have P14 := Lib.hid (blk_below k4 P1.out)
  have P24 := Lib.hid (blk_below k4 P2.out)
  have B4 := Lib.hid (below_step BW.out k4)
  have HX4 := Lib.hid (HX.out.below B4.out)
  have hw4 : w.heap.size + 2 ≤ w4.heap.size := by have := k4.size; have := HS.out; omega
  clear hok k4 P1 P2 BW HX1 a0 a1 G HS
  have a0 := blk_cell (o := 0) P14.out rfl
  have a1 := blk_cell (o := 1) P14.out rfl
  cases ok
  · have hno : ¬ GOk s es := fun h => by have := HOK.out; rw [PP_yes h] at this; cases this
    go_wp2_with fail
    refine (l04Copy_any s A c es w4 HX4.out (by omega)).mono ?_
    rintro e w5 ⟨A5, c5, rfl, own5, k5⟩
    have R5 := blk_below k5 P24.out
    have B5 := Lib.hid (below_step B4.out k5)
    have O5 := Lib.hid own5
    have r0 := blk_cell (o := 0) R5 rfl
    have r1 := blk_cell (o := 1) R5 rfl
    have f0 : w5.frozen? ⟨w.heap.size + 1, 0, none⟩ = false := frozen_of_row w5 _ 0 _ _ R5
    have f1 : w5.frozen? ⟨w.heap.size + 1, 1, none⟩ = false := frozen_of_row w5 _ 1 _ _ R5
    clear R5 a0 a1 own5 k5
    go_wp2
    refine bodyPost_ret (v := .agg #[.int .i64 s, .slice A5 es.length c5]) (by simp [results, Try.results31, go_sem, r0, r1]) rfl ?_
    unfold MadeG
    rw [tuL_no hno]
    refine ⟨A5, c5, rfl, ?_, ?_⟩
    · exact own_mono (ownsRow_setCell_below (ownsRow_setCell_below O5.out (a := ⟨w.heap.size + 1, 0, none⟩) (by simp; omega) (.int .i64 s)) (a := ⟨w.heap.size + 1, 1, none⟩) (by simp; omega) (.slice A5 es.length c5)) (by omega)
    · exact (B5.out.setCell (p := ⟨w.heap.size + 1, 0, none⟩) (by simp) (.int .i64 s)).setCell (p := ⟨w.heap.size + 1, 1, none⟩) (by simp) (.slice A5 es.length c5)
  · have hg := PP_true HOK.out
    have HG := Lib.hid hg
    have hl40 := hg.2.1
    clear hg
    have ka := below_alloc w4 (.cells #[.int .i64 s, .slice none 0 0] 26)
    have P15 := Lib.hid (blk_below ka P14.out)
    have P25 := Lib.hid (blk_below ka P24.out)
    have Q5 := Lib.hid (heap_alloc_new w4 (.cells #[.int .i64 s, .slice none 0 0] 26))
    have B5 := Lib.hid (below_step B4.out ka)
    obtain ⟨q, hq⟩ : ∃ q, w4.heap.size = q := ⟨_, rfl⟩
    rw [hq] at Q5 hw4
    clear ka
    go_wp2
    clear a0 a1
    go_loopw [4] (fun i wr => ∃ (k : Nat) (v : Value) (fs : List Ed), k ≤ es.length ∧ i = .int .i64 k ∧ Hid (fs = putsE ((es.map trE).take k)) ∧ fs.length ≤ k ∧ (∀ e ∈ fs, 0 ≤ e.l ∧ e.l ≤ 255) ∧ wr.heap[q]? = some (.cells #[.int .i64 s, v] 26 (0, 0)) ∧ wr.heap[w.heap.size + 1]? = some (.cells #[.int .i64 0, .slice none 0 0] 26 (0, 0)) ∧ wr.heap[w.heap.size]? = some (.cells #[.int .i64 s, .slice A es.length c] 26 (0, 0)) ∧
        wr.ownsRow (q + 1) 31 3 v fs.length (edCells fs) ∧ Below w.heap.size w wr) (fun i _ => es.length - (intOf i).toNat)
    case atStart => exact ⟨0, _, [], Nat.zero_le _, rfl, Lib.hid (by simp [putsE]), Nat.le_refl _, by simp, Q5.out, P25.out, P15.out, World.ownsRow_nil _ _ _ _, B5.out⟩
    case round =>
      obtain ⟨k, v, fs, hk, rfl, HF, hfl, hfb, hqq, hr, hbx, hown, hb⟩ := hrel
      have HQ := Lib.hid hqq
      have HRR := Lib.hid hr
      have HBX := Lib.hid hbx
      have HFB := Lib.hid hfb
      clear hqq hr hbx hfb P14 P24 B4 HX4 P15 P25 Q5 B5 hq
      have a1 := blk_cell (o := 1) HBX.out rfl
      obtain ⟨A1, c1, rfl, _, _⟩ := own_slice hown
      by_cases hlt : k < es.length
      · obtain ⟨b, o, rfl, c0, c1', c2⟩ := (RdE.below HX.out hb).at_ hlt
        obtain ⟨x, hxx⟩ : ∃ x, es[k] = x := ⟨_, rfl⟩
        rw [hxx] at c0 c1' c2
        have EX := Lib.hid hxx
        clear hxx
        obtain ⟨xf, xl, xt⟩ := x
        simp only at c0 c1' c2
        have k5 := below_alloc wr (.cells #[.int .i64 xf, .int .u8 xl, .int .i64 xt] 31)
        have own5 := own_below hown k5
        have hb5 := below_step hb k5
        have Q5 := Lib.hid (blk_below k5 HQ.out)
        have R5 := Lib.hid (blk_below k5 HRR.out)
        have X5 := Lib.hid (blk_below k5 HBX.out)
        have O5 := Lib.hid (Rd.of_own own5)
        have HB5 := Lib.hid hb5
        have q1 := blk_cell (o := 1) HQ.out rfl
        have k0 : (0 : Int) ≤ (k : Int) := by omega
        have k1 : (k : Int) < (es.length : Int) := by omega
        clear own5 hb5 hown k5 hb
        have hql := blk_lt HQ.out
        obtain ⟨W5, hW5⟩ : ∃ W, wr.alloc (.cells #[.int .i64 xf, .int .u8 xl, .int .i64 xt] 31) = W := ⟨_, rfl⟩
        have e0 := heap_alloc_new wr (.cells #[.int .i64 xf, .int .u8 xl, .int .i64 xt] 31)
        have hs5 : W5.heap.size = wr.heap.size + 1 := by rw [← hW5]; simp
        rw [hW5] at Q5 R5 X5 O5 HB5 e0
        have x0 : W5.cell? ⟨wr.heap.size, 0, none⟩ = some (.int .i64 xf) := blk_cell (o := 0) e0 rfl
        have x1 : W5.cell? ⟨wr.heap.size, 1, none⟩ = some (.int .u8 xl) := blk_cell (o := 1) e0 rfl
        have x2 : W5.cell? ⟨wr.heap.size, 2, none⟩ = some (.int .i64 xt) := blk_cell (o := 2) e0 rfl
        clear q1
        have q1 : W5.cell? ⟨q, 1, none⟩ = some (.slice A1 fs.length c1) := blk_cell (o := 1) Q5.out rfl
        clear e0
        go_wp2_with fail
        refine (l04Put_any A1 c1 fs ⟨xt, xl, xf⟩ W5 O5.out (by omega)).mono ?_
        clear hW5 x0 x1 x2 q1 a1
        have hpl := (put_len fs ⟨xt, xl, xf⟩).1
        obtain ⟨us, hus⟩ : ∃ us, putE fs ⟨xt, xl, xf⟩ = us := ⟨_, rfl⟩
        rw [hus] at hpl
        have HUS := Lib.hid hus
        unfold MadeE
        rw [hus]
        clear hus
        rintro e w6 ⟨A2, c2', rfl, own6, k6⟩
        have Q6 := Lib.hid (blk_below k6 Q5.out)
        have R6 := Lib.hid (blk_below k6 R5.out)
        have X6 := Lib.hid (blk_below k6 X5.out)
        have B6 := Lib.hid (below_step HB5.out k6)
        have O6 := Lib.hid own6
        have q1 : w6.cell? ⟨q, 1, none⟩ = some (.slice A1 fs.length c1) := blk_cell (o := 1) Q6.out rfl
        have f1 : w6.frozen? ⟨q, 1, none⟩ = false := frozen_of_row w6 _ 1 _ _ Q6.out
        clear own6 k6
        go_wp2
        go_roundw
        case rel =>
          refine ⟨k + 1, _, us, by omega, by go_num, Lib.hid ?_, by omega, ?_, heap_setCell_same _ _ 1 _ _ _ Q6.out, (Below.heap_setCell _ _ _ _ (by simp; omega)).trans R6.out, (Below.heap_setCell _ _ _ _ (by simp; omega)).trans X6.out, ?_, B6.out.setCell (p := ⟨q, 1, none⟩) (by simp; omega) _⟩
          · rw [putsE_next (es := es.map trE) (k := k) (by simpa using hlt), ← HF.out, ← HUS.out]
            simp [EX.out, trE]
          · intro e he
            rw [← HUS.out] at he
            rcases mem_put.1 he with rfl | he
            · have := HL.out es[k] (List.getElem_mem hlt)
              rw [EX.out] at this
              exact this
            · exact HFB.out e he
          · exact ownsRow_setCell_below (own_mono O6.out (show q + 1 ≤ W5.heap.size by omega)) (a := ⟨q, 1, none⟩) (by simp) _
        case measure => simp [intOf]; omega
      · obtain rfl : k = es.length := by omega
        have hts : fs = tuL s es := by
          have := HF.out
          rw [List.take_of_length_le (by simp)] at this
          unfold tuL
          rw [PP_yes HG.out]
          exact this
        have TS := Lib.hid hts
        have q0 := blk_cell (o := 0) HQ.out rfl
        have q1 := blk_cell (o := 1) HQ.out rfl
        have r0 := blk_cell (o := 0) HRR.out rfl
        have r1 := blk_cell (o := 1) HRR.out rfl
        have f0 : wr.frozen? ⟨w.heap.size + 1, 0, none⟩ = false := frozen_of_row wr _ 0 _ _ HRR.out
        have f1 : wr.frozen? ⟨w.heap.size + 1, 1, none⟩ = false := frozen_of_row wr _ 1 _ _ HRR.out
        have OW := Lib.hid hown
        have HB := Lib.hid hb
        clear hown hb hts
        go_wp2
        refine bodyPost_ret (v := .agg #[.int .i64 s, .slice A1 fs.length c1]) (by simp [results, Try.results31, go_sem, r0, r1]) rfl ?_
        unfold MadeG
        rw [← TS.out]
        refine ⟨A1, c1, rfl, ?_, ?_⟩
        · exact own_mono (ownsRow_setCell_below (ownsRow_setCell_below OW.out (a := ⟨w.heap.size + 1, 0, none⟩) (by simp; omega) (.int .i64 s)) (a := ⟨w.heap.size + 1, 1, none⟩) (by simp; omega) (.slice A1 fs.length c1)) (by omega)
        · exact (HB.out.setCell (p := ⟨w.heap.size + 1, 0, none⟩) (by simp) (.int .i64 s)).setCell (p := ⟨w.heap.size + 1, 1, none⟩) (by simp) (.slice A1 fs.length c1)
end Go.Proofs.Ytnhanakeijplcaa
