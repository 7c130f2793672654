/- FnTurnedGraphs: a drawn graph turned. No conditions. -/
import Derived.Test.YtnhanakeijplcaaTurn2
import Derived.Test.YtnhanakeijplcaaTurned
import Derived.Test.YtnhanakeijplcaaSTurned
import Derived.Test.YtnhanakeijplcaaSame
import Derived.Test.YtnhanakeijplcaaIn2
import Derived.Test.YtnhanakeijplcaaBig
namespace Go.Proofs.Ytnhanakeijplcaa
open Go.RowKit

theorem tuL_le (s : Int) (es : List Ed) : (tuL s es).length ≤ es.length := by
  unfold tuL
  split
  · have := putsE_len (es.map trE) []
    simpa [putsE] using this
  · simp
theorem sameGraph_yes (s : Int) (A : Option Addr) (c : Nat) (B : Option Addr) (d : Nat) (es : List Ed) (w : World) (hx : RdE w A es) (hy : RdE w B es) (h : es.length ≤ 4294967296) :
    Calls Try.prog 22 #[.agg #[.int .i64 s, .slice A es.length c], .agg #[.int .i64 s, .slice B es.length d]] w fun e w' => e = .returned (.bool true) ∧ Below w.heap.size w w' := by
  refine (sameGraph_any s A c es s B d es w hx hy h).mono ?_
  rintro e w' ⟨rfl, hb⟩
  exact ⟨by rw [PP_yes ⟨rfl, rfl⟩], hb⟩
theorem below_same {w w' : World} (h : w = w') : Below w.heap.size w w' := h ▸ Below.refl _ _

set_option maxRecDepth 100000 in
set_option maxHeartbeats 6400000 in
theorem FnTurnedGraphs_walk (w : World) (v0 : Value) (cs : List Int) (h0 : SlK w .u8 v0 cs) :
    Calls Try.prog 5 #[v0] w fun e w' => e = .returned (.bool true) ∧ Below w.heap.size w w' := by
  obtain ⟨A, n, c, rfl, hn, hcode⟩ := code0_of h0
  clear h0
  by_cases hbig : 1048576 < n
  · have B := Lib.hid (big_any A n c w hn)
    rw [show decide (1048576 < n) = true by simp; omega] at B
    clear hcode
    go_enter Try.func5, Try.ntmps5
    go_wp2_with fail
    refine B.out.mono ?_
    rintro e w1 ⟨rfl, rfl⟩
    go_wp2
    go_ret
    exact ⟨rfl, Below.refl _ _⟩
  · have B := Lib.hid (big_any A n c w hn)
    rw [show decide (1048576 < n) = false by simp; omega] at B
    have hc := hcode (by omega)
    clear hcode
    have HC := Lib.hid hc
    clear hc
    go_enter Try.func5, Try.ntmps5
    go_wp2_with fail
    refine B.out.mono ?_
    rintro e w1 ⟨rfl, rfl⟩
    clear B
    go_wp2_with fail
    refine (DrawGraph_any A n c cs _ HC.out).mono ?_
    rintro e w1 ⟨s, A1, c1, es, rfl, hok, hl1, hl10, own1, k1⟩
    have HOK := Lib.hid hok
    have HL := Lib.hid (gOk_lab hok)
    have ka := below_alloc w1 (.cells #[.int .i64 s, .slice A1 es.length c1] 26)
    have Q1 := Lib.hid (heap_alloc_new w1 (.cells #[.int .i64 s, .slice A1 es.length c1] 26))
    have R1 := Lib.hid (Rd.below (Rd.of_own own1) ka)
    have B1 := Lib.hid (below_step k1 ka)
    obtain ⟨q1, hq1⟩ : ∃ q, w1.heap.size = q := ⟨_, rfl⟩
    rw [hq1] at Q1
    obtain ⟨W1, hW1⟩ : ∃ W, w1.alloc (.cells #[.int .i64 s, .slice A1 es.length c1] 26) = W := ⟨_, rfl⟩
    rw [hW1] at Q1 R1 B1
    have b0 := blk_cell (o := 0) Q1.out rfl
    have b1 := blk_cell (o := 1) Q1.out rfl
    clear own1 k1 ka hok
    go_wp2_with fail
    refine (impl_Turned_any s A1 c1 es W1 R1.out (by omega) HL.out).mono ?_
    have htl := tu_len HOK.out
    have UOK := Lib.hid (tu_ok HOK.out)
    have UU := Lib.hid (tu_tu HOK.out)
    have UN := Lib.hid (fun e he => tu_next (s := s) (es := es) (e := e) HOK.out he)
    obtain ⟨us, hus⟩ : ∃ us, tuL s es = us := ⟨_, rfl⟩
    unfold MadeG
    rw [hus]
    rw [hus] at htl UOK UU UN
    clear hus hW1 hq1 b0 b1
    have HTL := Lib.hid htl
    have hul : us.length ≤ 10 := by omega
    clear htl
    rintro e w2 ⟨A2, c2, rfl, own2, k2⟩
    have ka := below_alloc w2 (.cells #[.int .i64 s, .slice A2 us.length c2] 26)
    have kk := below_step k2 ka
    have P2 := Lib.hid (heap_alloc_new w2 (.cells #[.int .i64 s, .slice A2 us.length c2] 26))
    have S2 := Lib.hid (Rd.below (Rd.of_own own2) ka)
    have Q2 := Lib.hid (blk_below kk Q1.out)
    have R2 := Lib.hid (Rd.below R1.out kk)
    have B2 := Lib.hid (below_step B1.out kk)
    obtain ⟨q2, hq2⟩ : ∃ q, w2.heap.size = q := ⟨_, rfl⟩
    obtain ⟨W2, hW2⟩ : ∃ W, w2.alloc (.cells #[.int .i64 s, .slice A2 us.length c2] 26) = W := ⟨_, rfl⟩
    rw [hq2, hW2] at P2
    rw [hW2] at S2 Q2 R2 B2
    clear own2 k2 ka kk Q1 R1 B1
    go_wp2_with fail
    go_loopw [5] (fun i wr => ∃ (k : Nat), k ≤ es.length ∧ i = .int .i64 k ∧ Below W2.heap.size W2 wr) (fun i _ => es.length - (intOf i).toNat)
    case atStart => exact ⟨0, Nat.zero_le _, rfl, Below.refl _ _⟩
    case round =>
      clear hW2 hq2
      obtain ⟨k, hk, rfl, hb⟩ := hrel
      have b0 := held_step hb (blk_cell (o := 0) Q2.out rfl)
      have b1 := held_step hb (blk_cell (o := 1) Q2.out rfl)
      have d0 := held_step hb (blk_cell (o := 0) P2.out rfl)
      have d1 := held_step hb (blk_cell (o := 1) P2.out rfl)
      by_cases hlt : k < es.length
      · have hmem : es[k] ∈ es := List.getElem_mem hlt
        obtain ⟨b, o, rfl, e0, e1, e2⟩ := (RdE.below R2.out hb).at_ hlt
        have hnx := UN.out _ hmem
        obtain ⟨x, hxx⟩ : ∃ x, es[k] = x := ⟨_, rfl⟩
        rw [hxx] at e0 e1 e2 hnx
        clear hxx hmem
        obtain ⟨xf, xl, xt⟩ := x
        simp only at e0 e1 e2 hnx
        have HNX := Lib.hid hnx
        have k0 : (0 : Int) ≤ (k : Int) := by omega
        have k1 : (k : Int) < (es.length : Int) := by omega
        have hS := Lib.hid (show RdE wr.drew A2 us from RdE.below S2.out hb.drew)
        have HB := Lib.hid hb
        clear hnx hb
        go_wp2_with fail
        have hzl : (setI (nextRaw xt xl us)).length ≤ 10 := by have := setI_len (nextRaw xt xl us); have := nextRaw_len xt xl us; omega
        obtain ⟨zs, hzs⟩ : ∃ zs, setI (nextRaw xt xl us) = zs := ⟨_, rfl⟩
        have CN := Lib.hid (fun w hx => impl_NextOf_any s A2 c2 us xt xl w hx (by omega))
        unfold MadeIc at CN
        rw [hzs] at CN HNX hzl
        have CI := Lib.hid (fun A c w hx => laws_in_any A zs.length c zs xf w hx (by omega))
        rw [HNX.out] at CI
        clear hzs HNX
        have hB7 : Below wr.heap.size wr wr.drew := (Below.refl _ _).drew
        have hSd : RdE wr.drew A2 us := hS.out
        go_region_held3 (fun w' => w'.cell? ⟨q1, 0, none⟩ = some (.int .i64 s) ∧ w'.cell? ⟨q1, 1, none⟩ = some (.slice (some ⟨b, o, none⟩) es.length c1) ∧ w'.cell? ⟨q2, 0, none⟩ = some (.int .i64 s) ∧ w'.cell? ⟨q2, 1, none⟩ = some (.slice A2 us.length c2) ∧
            w'.cell? ⟨b, o + k * 3, none⟩ = some (.int .i64 xf) ∧ w'.cell? ⟨b, o + k * 3 + 1, none⟩ = some (.int .u8 xl) ∧ w'.cell? ⟨b, o + k * 3 + 2, none⟩ = some (.int .i64 xt) ∧ RdE w' A2 us ∧ Below wr.heap.size wr w')
          ((first
            | (go_split_ands; exact ⟨held_step hbk (by assumption), held_step hbk (by assumption), held_step hbk (by assumption), held_step hbk (by assumption), held_step hbk (by assumption), held_step hbk (by assumption), held_step hbk (by assumption), RdE.below (by assumption) hbk, below_step (by assumption) hbk⟩)
            | (exact ⟨b0, b1, d0, d1, e0, e1, e2, hSd, hB7⟩)))
          ((first
            | (go_at_call 21; go_split_ands; refine (CN.out _ (by assumption)).mono ?_; rintro e w' ⟨A5, c5, g5, rfl, o5, hbk⟩; have r5 : RdI w' A5 zs.length zs := Rd.of_own o5; clear o5)
            | (go_at_call 19; go_split_ands; refine (CI.out _ _ _ (by assumption)).mono ?_; rintro e w' ⟨rfl, hw'⟩; have hbk := below_same hw'; clear hw')))
        clear hB7 hSd
        go_split_ands
        have U : Below wr.heap.size wr w' := by assumption
        have hb9 := below_step HB.out U
        clear U b0 b1 d0 d1 e0 e1 e2
        go_wp2
        go_roundw
        case rel => exact ⟨k + 1, by omega, by go_num, hb9⟩
        case measure => simp [intOf]; omega
      · obtain rfl : k = es.length := by omega
        have B3 := Lib.hid (below_step B2.out hb)
        have HBB := Lib.hid hb
        clear hb
        go_wp2_with fail
        refine (DrawTurned_any A n c cs wr (HC.out.keep B3.out)).mono ?_
        clear b0 b1 d0 d1
        rintro e w4 ⟨s6, A6, c6, es6, rfl, hl6, hlab6, own6, k6⟩
        have HL6 := Lib.hid hlab6
        have ka := below_alloc w4 (.cells #[.int .i64 s6, .slice A6 es6.length c6] 26)
        have kk := below_step k6 ka
        have kw := below_step HBB.out kk
        have V4 := Lib.hid (heap_alloc_new w4 (.cells #[.int .i64 s6, .slice A6 es6.length c6] 26))
        have T4 := Lib.hid (Rd.below (Rd.of_own own6) ka)
        have P4 := Lib.hid (blk_below kw P2.out)
        have Q4 := Lib.hid (blk_below kw Q2.out)
        have S4 := Lib.hid (Rd.below S2.out kw)
        have R4 := Lib.hid (Rd.below R2.out kw)
        have B4 := Lib.hid (below_step B3.out kk)
        obtain ⟨q6, hq6⟩ : ∃ q, w4.heap.size = q := ⟨_, rfl⟩
        obtain ⟨W4, hW4⟩ : ∃ W, w4.alloc (.cells #[.int .i64 s6, .slice A6 es6.length c6] 26) = W := ⟨_, rfl⟩
        rw [hq6, hW4] at V4
        rw [hW4] at T4 P4 Q4 S4 R4 B4
        clear own6 k6 ka kk kw hlab6
        go_wp2_with fail
        clear hW4 hq6
        have b0 : W4.cell? ⟨q1, 0, none⟩ = some (.int .i64 s) := blk_cell (o := 0) Q4.out rfl
        have b1 : W4.cell? ⟨q1, 1, none⟩ = some (.slice A1 es.length c1) := blk_cell (o := 1) Q4.out rfl
        have d0 : W4.cell? ⟨q2, 0, none⟩ = some (.int .i64 s) := blk_cell (o := 0) P4.out rfl
        have d1 : W4.cell? ⟨q2, 1, none⟩ = some (.slice A2 us.length c2) := blk_cell (o := 1) P4.out rfl
        have v0 : W4.cell? ⟨q6, 0, none⟩ = some (.int .i64 s6) := blk_cell (o := 0) V4.out rfl
        have v1 : W4.cell? ⟨q6, 1, none⟩ = some (.slice A6 es6.length c6) := blk_cell (o := 1) V4.out rfl
        have rE : RdE W4.drew A1 es := R4.out
        have rU : RdE W4.drew A2 us := S4.out
        have rV : RdE W4.drew A6 es6 := T4.out
        have hB8 : Below W4.heap.size W4 W4.drew := (Below.refl _ _).drew
        have UL := Lib.hid (gOk_lab UOK.out)
        have X1 := Lib.hid (fun w hx => impl_Turned_any s A2 c2 us w hx (by omega) UL.out)
        have X2 := Lib.hid (fun w hx => impl_Turned_any s6 A6 c6 es6 w hx (by omega) HL6.out)
        have X3 := Lib.hid (fun w hx => spec_Turned_any s6 A6 c6 es6 w hx (by omega) HL6.out)
        have XG := Lib.hid (fun w hx => impl_GraphOk_any s A2 c2 us w hx (by omega) UL.out)
        have hl7 : (tuL s6 es6).length ≤ 11 := Nat.le_trans (tuL_le s6 es6) hl6
        obtain ⟨fs, hfs⟩ : ∃ fs, tuL s6 es6 = fs := ⟨_, rfl⟩
        unfold MadeG at X1 X2 X3
        rw [UU.out] at X1
        rw [hfs] at X2 X3 hl7
        rw [PP_yes UOK.out] at XG
        clear hfs
        have XS := Lib.hid (fun a ca b cb w hx hy => sameGraph_yes s a ca b cb es w hx hy (by omega))
        have XF := Lib.hid (fun a ca b cb w hx hy => sameGraph_yes s6 a ca b cb fs w hx hy (by omega))
        have hlen : us.length = es.length := HTL.out
        have g1 : ((us.length : Int) == (es.length : Int)) = true := by simp [hlen]
        clear hlen
        go_region_held3 (fun w' => w'.cell? ⟨q1, 0, none⟩ = some (.int .i64 s) ∧ w'.cell? ⟨q1, 1, none⟩ = some (.slice A1 es.length c1) ∧ w'.cell? ⟨q2, 0, none⟩ = some (.int .i64 s) ∧ w'.cell? ⟨q2, 1, none⟩ = some (.slice A2 us.length c2) ∧
            w'.cell? ⟨q6, 0, none⟩ = some (.int .i64 s6) ∧ w'.cell? ⟨q6, 1, none⟩ = some (.slice A6 es6.length c6) ∧ RdE w' A1 es ∧ RdE w' A2 us ∧ RdE w' A6 es6 ∧ Below W4.heap.size W4 w')
          ((first
            | (go_split_ands; exact ⟨held_step hbk (by assumption), held_step hbk (by assumption), held_step hbk (by assumption), held_step hbk (by assumption), held_step hbk (by assumption), held_step hbk (by assumption), RdE.below (by assumption) hbk, RdE.below (by assumption) hbk, RdE.below (by assumption) hbk, below_step (by assumption) hbk⟩)
            | (exact ⟨b0, b1, d0, d1, v0, v1, rE, rU, rV, hB8⟩)))
          ((first
            | (go_at_call 29; go_split_ands; first
                | ((with_reducible refine (X1.out _ (by assumption)).mono ?_); rintro e w' ⟨A5, c5, rfl, o5, hbk⟩; have r5 : RdE w' A5 es := Rd.of_own o5; clear o5)
                | ((with_reducible refine (X2.out _ (by assumption)).mono ?_); rintro e w' ⟨A7, c7, rfl, o7, hbk⟩; have r7 : RdE w' A7 fs := Rd.of_own o7; clear o7))
            | (go_at_call 31; go_split_ands; refine (X3.out _ (by assumption)).mono ?_; rintro e w' ⟨A8, c8, rfl, o8, hbk⟩; have r8 : RdE w' A8 fs := Rd.of_own o8; have r7 := RdE.below r7 hbk; clear o8)
            | (go_at_call 23; go_split_ands; refine (XG.out _ (by assumption)).mono ?_; rintro e w' ⟨rfl, hbk⟩)
            | (go_at_call 22; go_split_ands; first
                | ((with_reducible refine (XS.out _ _ _ _ _ r5 (by assumption)).mono ?_); rintro e w' ⟨rfl, hbk⟩)
                | ((with_reducible refine (XF.out _ _ _ _ _ r7 r8).mono ?_); rintro e w' ⟨rfl, hbk⟩))))
        go_split_ands
        have U : Below W4.heap.size W4 w' := by assumption
        have hb9 := below_step B4.out U
        go_wp2
        go_ret
        exact ⟨rfl, hb9⟩
end Go.Proofs.Ytnhanakeijplcaa
