/- Turned: the program's function. Conditions: the labels' range and the size of a length. -/
import Derived.Test.YtnhanakeijplcaaTurnE
import Derived.Test.YtnhanakeijplcaaClone
import Derived.Test.YtnhanakeijplcaaGraphOk
import Derived.Test.YtnhanakeijplcaaBlk
namespace Go.Proofs.Ytnhanakeijplcaa
open Go.RowKit

theorem SortFunc_at (base : Nat) (A : Option Addr) (n c : Nat) (es : List Ed) (w : World) (hln : es.length = n) (hown : w.ownsRow base 31 3 (.slice A n c) n (edCells es)) (hn : n ≤ 4294967296) (hl : ∀ e ∈ es, 0 ≤ e.l ∧ e.l ≤ 255) :
    Calls Try.prog 71 #[.slice A n c, .func (.func 58) #[] #[]] w fun e w' =>
      e = .returned (.tuple #[]) ∧ ∃ fs, SortedE es fs ∧ w'.ownsRow base 31 3 (.slice A n c) n (edCells fs) ∧ w.grownBy w' (Value.slice A n c).ownBlock := by
  subst hln
  exact slices_SortFunc_own base A c es w hown hn hl

set_option maxRecDepth 100000 in
set_option maxHeartbeats 6400000 in
theorem impl_Turned_any (s : Int) (A : Option Addr) (c : Nat) (es : List Ed) (w : World) (hx : RdE w A es) (hn : es.length ≤ 4294967296) (hl : ∀ e ∈ es, 0 ≤ e.l ∧ e.l ≤ 255) :
    Calls Try.prog 29 #[.agg #[.int .i64 s, .slice A es.length c]] w (MadeG w s (tuL s es)) := by
  have G := Lib.hid (fun w hx => impl_GraphOk_any s A c es w hx hn hl)
  have p1 := blk_below (below_alloc _ (.cells #[.int .i64 0, .slice none 0 0] 26)) (heap_alloc_new w (.cells #[.int .i64 s, .slice A es.length c] 26))
  have p2 : ((w.alloc (.cells #[.int .i64 s, .slice A es.length c] 26)).alloc (.cells #[.int .i64 0, .slice none 0 0] 26)).heap[w.heap.size + 1]? = some (.cells #[.int .i64 0, .slice none 0 0] 26 (0, 0)) := by
    have := heap_alloc_new (w.alloc (.cells #[.int .i64 s, .slice A es.length c] 26)) (.cells #[.int .i64 0, .slice none 0 0] 26)
    simpa using this
  have B2 : Below w.heap.size w ((w.alloc (.cells #[.int .i64 s, .slice A es.length c] 26)).alloc (.cells #[.int .i64 0, .slice none 0 0] 26)) := below_step (below_alloc _ _) (below_alloc _ _)
  have hs2 : ((w.alloc (.cells #[.int .i64 s, .slice A es.length c] 26)).alloc (.cells #[.int .i64 0, .slice none 0 0] 26)).heap.size = w.heap.size + 2 := by simp
  obtain ⟨W, hW⟩ : ∃ W, (w.alloc (.cells #[.int .i64 s, .slice A es.length c] 26)).alloc (.cells #[.int .i64 0, .slice none 0 0] 26) = W := ⟨_, rfl⟩
  rw [hW] at p1 p2 B2 hs2
  have a0 : W.cell? ⟨w.heap.size, 0, none⟩ = some (.int .i64 s) := blk_cell (w := W) (o := 0) p1 rfl
  have a1 : W.cell? ⟨w.heap.size, 1, none⟩ = some (.slice A es.length c) := blk_cell (w := W) (o := 1) p1 rfl
  have P1 := Lib.hid p1
  have P2 := Lib.hid p2
  have BW := Lib.hid B2
  have HS := Lib.hid hs2
  have HX := Lib.hid hx
  have HX1 := Lib.hid (hx.below B2)
  have HL := Lib.hid hl
  clear p1 p2 B2 hs2 hx hl
  go_enter Try.func29, Try.ntmps29
  go_wp2_with fail
  refine (copyGraph_any s A c es W HX1.out hn).mono ?_
  clear hW
  rintro e w2 ⟨A1, c1, rfl, own2, k2⟩
  have ka := below_alloc w2 (.cells #[.int .i64 s, .slice A1 es.length c1] 26)
  have kk := below_step k2 ka
  have hr : ∀ r, (Value.slice A1 es.length c1).ownBlock = some r → w.heap.size + 2 ≤ r ∧ r < w2.heap.size := fun r hr => by have := own2.lt r hr; have := HS.out; omega
  have HR := Lib.hid hr
  have hq2 : w.heap.size + 2 ≤ w2.heap.size := by have := k2.size; have := HS.out; omega
  have P13 := Lib.hid (blk_below kk P1.out)
  have P23 := Lib.hid (blk_below kk P2.out)
  have Q3 := Lib.hid (heap_alloc_new w2 (.cells #[.int .i64 s, .slice A1 es.length c1] 26))
  have O3 := Lib.hid (own_mono (own_below own2 ka) (show w.heap.size + 2 ≤ W.heap.size by have := HS.out; omega))
  have B3 := Lib.hid (below_step BW.out kk)
  obtain ⟨q, hq⟩ : ∃ q, w2.heap.size = q := ⟨_, rfl⟩
  obtain ⟨W3, hW3⟩ : ∃ W, w2.alloc (.cells #[.int .i64 s, .slice A1 es.length c1] 26) = W := ⟨_, rfl⟩
  rw [hq] at hq2 HR
  rw [hq, hW3] at Q3
  rw [hW3] at P13 P23 O3 B3
  have HX3 := Lib.hid (HX.out.below B3.out)
  clear own2 k2 ka kk hr P1 P2 BW HS HX1 a0 a1
  have a0 := blk_cell (o := 0) P13.out rfl
  have a1 := blk_cell (o := 1) P13.out rfl
  go_wp2_with fail
  refine (G.out W3 HX3.out).mono ?_
  clear hW3 hq
  obtain ⟨ok, hok⟩ : ∃ ok, PP (GOk s es) = ok := ⟨_, rfl⟩
  rw [hok]
  have HOK := Lib.hid hok
  rintro e w4 ⟨rfl, k4⟩
  have P14 := Lib.hid (blk_below k4 P13.out)
  have P24 := Lib.hid (blk_below k4 P23.out)
  have Q4 := Lib.hid (blk_below k4 Q3.out)
  have O4 := Lib.hid (own_below O3.out k4)
  have B4 := Lib.hid (below_step B3.out k4)
  clear hok k4 P13 P23 Q3 O3 B3 HX3 a0 a1 G
  have a0 := blk_cell (o := 0) P14.out rfl
  have a1 := blk_cell (o := 1) P14.out rfl
  have q0 := blk_cell (o := 0) Q4.out rfl
  have q1 := blk_cell (o := 1) Q4.out rfl
  have r0 := blk_cell (o := 0) P24.out rfl
  have r1 := blk_cell (o := 1) P24.out rfl
  have f0 : w4.frozen? ⟨w.heap.size + 1, 0, none⟩ = false := frozen_of_row w4 _ 0 _ _ P24.out
  have f1 : w4.frozen? ⟨w.heap.size + 1, 1, none⟩ = false := frozen_of_row w4 _ 1 _ _ P24.out
  cases ok
  · have hno : ¬ GOk s es := fun h => by have := HOK.out; rw [PP_yes h] at this; cases this
    go_wp2
    refine bodyPost_ret (v := .agg #[.int .i64 s, .slice A1 es.length c1]) (by simp [results, Try.results29, go_sem, r0, r1]) rfl ?_
    unfold MadeG
    rw [tuL_no hno]
    refine ⟨A1, c1, rfl, ?_, ?_⟩
    · exact own_mono (ownsRow_setCell_below (ownsRow_setCell_below O4.out (a := ⟨w.heap.size + 1, 0, none⟩) (by simp) (.int .i64 s)) (a := ⟨w.heap.size + 1, 1, none⟩) (by simp) (.slice A1 es.length c1)) (by omega)
    · exact (B4.out.setCell (p := ⟨w.heap.size + 1, 0, none⟩) (by simp) (.int .i64 s)).setCell (p := ⟨w.heap.size + 1, 1, none⟩) (by simp) (.slice A1 es.length c1)
  · have hg := PP_true HOK.out
    have HG := Lib.hid hg
    clear hg
    go_wp2
    clear a0 a1 q0 q1 r0 r1 f0 f1
    go_loopw [15] (fun i wr => ∃ (k : Nat) (ys : List Value), k ≤ es.length ∧ i = .int .i64 k ∧ ys.length ≤ es.length * 3 ∧ es.length * 3 ≤ ys.length ∧ Hid (ys.take (k * 3) = edCells ((es.map trE).take k)) ∧ wr.heap[q]? = some (.cells #[.int .i64 s, .slice A1 es.length c1] 26 (0, 0)) ∧ wr.heap[w.heap.size + 1]? = some (.cells #[.int .i64 0, .slice none 0 0] 26 (0, 0)) ∧
        wr.ownsRow (w.heap.size + 2) 31 3 (.slice A1 es.length c1) es.length ys ∧ Below w.heap.size w wr) (fun i _ => es.length - (intOf i).toNat)
    case atStart => exact ⟨0, edCells es, Nat.zero_le _, rfl, by rw [edCells_len]; omega, by rw [edCells_len]; omega, Lib.hid (by simp [edCells]), Q4.out, P24.out, O4.out, B4.out⟩
    case round =>
      clear P14 P24 Q4 O4 B4
      obtain ⟨k, ys, hk, rfl, hy1, hy2, HT, hq, hr, hown, hb⟩ := hrel
      have HQ := Lib.hid hq
      have HRR := Lib.hid hr
      clear hq hr
      by_cases hlt : k < es.length
      · obtain ⟨b, o, rfl, c0, c1', c2⟩ := (RdE.below HX.out hb).at_ hlt
        obtain ⟨x, hxx⟩ : ∃ x, es[k] = x := ⟨_, rfl⟩
        rw [hxx] at c0 c1' c2
        have EX := Lib.hid hxx
        clear hxx
        obtain ⟨xf, xl, xt⟩ := x
        simp only at c0 c1' c2
        obtain ⟨g, cap, hv, _, _⟩ := hown.form (by omega)
        injection hv with e1 e2 e3
        subst e1 e3
        have hgq := HR.out g rfl
        obtain ⟨W5, hW5⟩ : ∃ W, wr.alloc (.cells #[.int .i64 xf, .int .u8 xl, .int .i64 xt] 31) = W := ⟨_, rfl⟩
        have k5 := below_alloc wr (.cells #[.int .i64 xf, .int .u8 xl, .int .i64 xt] 31)
        have e0 := heap_alloc_new wr (.cells #[.int .i64 xf, .int .u8 xl, .int .i64 xt] 31)
        have hs5 : W5.heap.size = wr.heap.size + 1 := by rw [← hW5]; simp
        rw [hW5] at k5 e0
        have own5 := own_below hown k5
        have hb5 := below_step hb k5
        have Q5 := Lib.hid (blk_below k5 HQ.out)
        have R5 := Lib.hid (blk_below k5 HRR.out)
        have x0 : W5.cell? ⟨wr.heap.size, 0, none⟩ = some (.int .i64 xf) := blk_cell (o := 0) e0 rfl
        have x1 : W5.cell? ⟨wr.heap.size, 1, none⟩ = some (.int .u8 xl) := blk_cell (o := 1) e0 rfl
        have x2 : W5.cell? ⟨wr.heap.size, 2, none⟩ = some (.int .i64 xt) := blk_cell (o := 2) e0 rfl
        have q1 : W5.cell? ⟨q, 1, none⟩ = some (.slice (some ⟨g, 0, none⟩) es.length c1) := blk_cell (o := 1) Q5.out rfl
        obtain ⟨u0, u1, u2, d0, d1, d2, f0, f1, f2⟩ := own3 own5 hlt
        have hst := own3_stored own5 k (.int .i64 xt) (.int .u8 xl) (.int .i64 xf)
        have HST := Lib.hid hst
        have HB5 := Lib.hid hb5
        have k0 : (0 : Int) ≤ (k : Int) := by omega
        have k1 : (k : Int) < (es.length : Int) := by omega
        clear hst own5 hb5 hown k5 e0 hb HQ HRR
        go_wp2
        go_roundw
        case rel =>
          refine ⟨k + 1, _, by omega, by go_num, ?_, ?_, ?_, (HST.out.2.block q (blk_lt Q5.out) (fun e => by injection e with e; omega)).trans Q5.out, (HST.out.2.block _ (blk_lt R5.out) (fun e => by injection e with e; omega)).trans R5.out, HST.out.1, HB5.out.grown HST.out.2 HB5.out.size (fun r hr => by cases hr; omega)⟩
          · simp; omega
          · simp; omega
          · refine Lib.hid ?_
            rw [take_set3 ys k _ _ _ (by omega), HT.out, edCells_next (es := es.map trE) (k := k) (by simpa using hlt)]
            simp [EX.out, trE]
        case measure => simp [intOf]; omega
      · obtain rfl : k = es.length := by omega
        have hys : ys = edCells (es.map trE) := by
          have := HT.out
          rwa [List.take_of_length_le (by omega), List.take_of_length_le (by simp)] at this
        subst hys
        have hlab : ∀ e ∈ es.map trE, 0 ≤ e.l ∧ e.l ≤ 255 := by
          intro e he
          obtain ⟨y, hy, rfl⟩ := List.mem_map.1 he
          exact HL.out y hy
        have CS := Lib.hid (SortFunc_at (w.heap.size + 2) A1 es.length c1 (es.map trE) wr (by simp) hown hn hlab)
        have OLT := Lib.hid hown.lt
        have HB := Lib.hid hb
        clear hown hb hlab HT hy1 hy2
        have q1 := blk_cell (o := 1) HQ.out rfl
        go_wp2_with fail
        refine CS.out.mono ?_
        rintro e w6 ⟨rfl, fs, hsort, own6, g6⟩
        have hfs := tuL_of HG.out hsort
        have hlen : fs.length = es.length := by rw [hsort.1.length_eq]; simp
        have hne : ∀ r, (Value.slice A1 es.length c1).ownBlock = some r → w.heap.size + 2 ≤ r ∧ r < q := HR.out
        have Q6 := Lib.hid ((g6.block q (blk_lt HQ.out) (fun e => by have := hne _ e.symm; omega)).trans HQ.out)
        have R6 := (g6.block _ (blk_lt HRR.out) (fun e => by have := hne _ e.symm; omega)).trans HRR.out
        have B6 := Lib.hid (HB.out.grown g6 HB.out.size (fun r hr => by have := hne r hr; omega))
        have OW6 := Lib.hid own6
        have FSO := Lib.hid hfs
        have LN := Lib.hid hlen
        clear q1 CS own6 g6 hsort hfs hlen hne HQ HRR HB
        have q0 := blk_cell (o := 0) Q6.out rfl
        have q1 := blk_cell (o := 1) Q6.out rfl
        have r0 := blk_cell (o := 0) R6 rfl
        have r1 := blk_cell (o := 1) R6 rfl
        have f0 : w6.frozen? ⟨w.heap.size + 1, 0, none⟩ = false := frozen_of_row w6 _ 0 _ _ R6
        have f1 : w6.frozen? ⟨w.heap.size + 1, 1, none⟩ = false := frozen_of_row w6 _ 1 _ _ R6
        clear R6
        go_wp2
        refine bodyPost_ret (v := .agg #[.int .i64 s, .slice A1 es.length c1]) (by simp [results, Try.results29, go_sem, r0, r1]) rfl ?_
        unfold MadeG
        rw [← FSO.out, LN.out]
        refine ⟨A1, c1, rfl, ?_, ?_⟩
        · exact own_mono (ownsRow_setCell_below (ownsRow_setCell_below OW6.out (a := ⟨w.heap.size + 1, 0, none⟩) (by simp) (.int .i64 s)) (a := ⟨w.heap.size + 1, 1, none⟩) (by simp) (.slice A1 es.length c1)) (by omega)
        · exact (B6.out.setCell (p := ⟨w.heap.size + 1, 0, none⟩) (by simp) (.int .i64 s)).setCell (p := ⟨w.heap.size + 1, 1, none⟩) (by simp) (.slice A1 es.length c1)
end Go.Proofs.Ytnhanakeijplcaa
