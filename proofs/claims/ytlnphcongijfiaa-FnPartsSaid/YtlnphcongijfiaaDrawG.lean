/- A drawn edge; a drawn graph. No conditions but the length of the code. -/
import Derived.Test.YtlnphcongijfiaaEdOrd
import Derived.Test.YtlnphcongijfiaaDraw
namespace Go.Proofs.Ytlnphcongijfiaa
open Go.RowKit

/-- What the drawing of an edge leaves. -/
def DrawnE (w0 : World) (g : Nat) (w : World) (n : Int) (e : Ending) (w' : World) : Prop :=
  ∃ x : Ed, e = .returned (.agg #[.int .i64 x.f, .int .u8 x.l, .int .i64 x.t]) ∧ (0 ≤ x.f ∧ x.f < n ∧ 0 ≤ x.t ∧ x.t < n ∧ 97 ≤ x.l ∧ x.l ≤ 99) ∧ CurAt w0 g w' ∧ w.grownBy w' (some g)

theorem grown_new {a b : World} {g q : Nat} (h : a.grownBy b (some g)) (hq : a.heap.size ≤ q) (o : Nat) (u : Value) : a.grownBy (b.setCell ⟨q, o, none⟩ u) (some g) :=
  ⟨h.os, h.tape, h.output, by simpa [World.setCell] using h.size, fun i hi hne => (Below.heap_setCell b ⟨q, o, none⟩ u i (by
    intro e
    first
      | (have e2 : q = i := e; omega)
      | (have e2 : i = q := e; omega))).trans (h.block i hi hne)⟩
theorem grown_new3 {a b : World} {g q : Nat} (h : a.grownBy b (some g)) (hq : a.heap.size ≤ q) (u v x : Value) : a.grownBy (((b.setCell ⟨q, 0, none⟩ u).setCell ⟨q, 1, none⟩ v).setCell ⟨q, 2, none⟩ x) (some g) :=
  grown_new (grown_new (grown_new h hq 0 u) hq 1 v) hq 2 x
theorem grown_alloc (w : World) (o : Obj) (row : Option Nat) : w.grownBy (w.alloc o) row :=
  ⟨rfl, rfl, rfl, by simp, fun i hi _ => Below.heap_alloc w o i hi⟩

set_option maxRecDepth 100000 in
set_option maxHeartbeats 1600000 in
theorem l04Edge_any (w0 : World) (g : Nat) (w : World) (n : Int) (hn : 1 ≤ n ∧ n ≤ 200) (hcur : CurAt w0 g w) (hB : Below w0.heap.size w0 w) :
    Calls Try.prog 119 #[.pointer (some ⟨g, 0, none⟩), .int .i64 n] w (DrawnE w0 g w n) := by
  have C0 := Lib.hid (fun w h1 h2 => l01Below_any w0 g w n (by omega) h1 h2)
  have C1 := Lib.hid (fun w h1 h2 => l01Below_any w0 g w 3 (by omega) h1 h2)
  have q0 := heap_alloc_new w (.cells #[.int .i64 0, .int .u8 0, .int .i64 0] 62)
  have hc0 := hcur.below (below_alloc w (.cells #[.int .i64 0, .int .u8 0, .int .i64 0] 62))
  have hb0 := hB.alloc hB.size (.cells #[.int .i64 0, .int .u8 0, .int .i64 0] 62)
  have g0 := grown_alloc w (.cells #[.int .i64 0, .int .u8 0, .int .i64 0] 62) (some g)
  have hgl := hcur.lt
  have Q0 := Lib.hid q0
  have G0 := Lib.hid g0
  clear hcur q0 g0
  obtain ⟨hn1, hn2⟩ := hn
  go_enter Try.func119, Try.ntmps119
  go_wp2_with fail
  refine (C0.out _ hc0 hb0).mono ?_
  rintro e w1 h
  obtain ⟨f, rfl, ⟨hf0, hf1⟩, hc1, hg1, hb1⟩ := h.step hb0
  have Q1 := Lib.hid ((hg1.block _ (blk_lt Q0.out) (fun e => by injection e with e; omega)).trans Q0.out)
  have G1 := Lib.hid (only_trans G0.out hg1)
  clear h hc0 hg1 Q0 G0
  go_wp2_with fail
  refine (C1.out _ hc1 hb1).mono ?_
  rintro e w2 h
  obtain ⟨l, rfl, ⟨hl0, hl1⟩, hc2, hg2, hb2⟩ := h.step hb1
  have Q2 := Lib.hid ((hg2.block _ (blk_lt Q1.out) (fun e => by injection e with e; omega)).trans Q1.out)
  have G2 := Lib.hid (only_trans G1.out hg2)
  clear h hc1 hg2 Q1 G1
  have hl2 : l ≤ 2 := by omega
  have ll : IntKind.u8.wrap (97 + l) = 97 + l := by rw [IntKind.wrap_u8]; omega
  go_wp2_with fail
  refine (C0.out _ hc2 hb2).mono ?_
  rintro e w3 h
  obtain ⟨t, rfl, ⟨ht0, ht1⟩, hc3, hg3, hb3⟩ := h.step hb2
  have q3 := (hg3.block _ (blk_lt Q2.out) (fun e => by injection e with e; omega)).trans Q2.out
  have G3 := Lib.hid (only_trans G2.out hg3)
  have d0 := blk_cell (o := 0) q3 rfl
  have d1 := blk_cell (o := 1) q3 rfl
  have d2 := blk_cell (o := 2) q3 rfl
  have f0 : w3.frozen? ⟨w.heap.size, 0, none⟩ = false := frozen_of_row w3 _ 0 _ _ q3
  have f1 : w3.frozen? ⟨w.heap.size, 1, none⟩ = false := frozen_of_row w3 _ 1 _ _ q3
  have f2 : w3.frozen? ⟨w.heap.size, 2, none⟩ = false := frozen_of_row w3 _ 2 _ _ q3
  have hC3 := Lib.hid hc3
  clear h hc2 hg3 Q2 G2 q3 hc3
  go_wp2
  refine bodyPost_ret (v := .agg #[.int .i64 f, .int .u8 (97 + l), .int .i64 t]) (by simp [results, Try.results119, go_sem, d0, d1, d2]) rfl ⟨⟨f, 97 + l, t⟩, rfl, ⟨hf0, by show f < n; omega, ht0, by show t < n; omega, by show 97 ≤ 97 + l; omega, by show 97 + l ≤ 99; omega⟩, ?_, ?_⟩
  · refine hC3.out.of_block ?_
    rw [Below.heap_setCell _ _ _ _ (by simp; omega), Below.heap_setCell _ _ _ _ (by simp; omega), Below.heap_setCell _ _ _ _ (by simp; omega)]
  · exact grown_new3 G3.out (Nat.le_refl _) _ _ _
/-- What the drawing of a graph leaves. -/
def DrawnG (w0 : World) (g : Nat) (w : World) (e : Ending) (w' : World) : Prop :=
  ∃ (s : Int) (A : Option Addr) (c : Nat) (es : List Ed), e = .returned (.agg #[.int .i64 s, .slice A es.length c]) ∧ GOk s es ∧ 1 ≤ es.length ∧ es.length ≤ 10 ∧ CurAt w0 g w' ∧ w'.ownsRow w.heap.size 62 3 (.slice A es.length c) es.length (edCells es) ∧ w.grownBy w' (some g)

theorem gOk_lab {s : Int} {es : List Ed} (h : GOk s es) : ∀ e ∈ es, 0 ≤ e.l ∧ e.l ≤ 255 := by
  intro e he
  have h1 := (gOk_iff.1 h).2.2.1 e he
  have h2 := h1.2.2
  simp [lblB] at h2
  omega

set_option maxRecDepth 100000 in
set_option maxHeartbeats 6400000 in
theorem l04Graph_any (w0 : World) (g : Nat) (w : World) (hcur : CurAt w0 g w) (hB : Below w0.heap.size w0 w) :
    Calls Try.prog 70 #[.pointer (some ⟨g, 0, none⟩)] w (DrawnG w0 g w) := by
  have C4 := Lib.hid (fun w h1 h2 => l01Below_any w0 g w 4 (by omega) h1 h2)
  have C9 := Lib.hid (fun w h1 h2 => l01Below_any w0 g w 9 (by omega) h1 h2)
  have q0 := heap_alloc_new w (.cells #[.int .i64 0, .slice none 0 0] 44)
  have hc0 := hcur.below (below_alloc w (.cells #[.int .i64 0, .slice none 0 0] 44))
  have hb0 := hB.alloc hB.size (.cells #[.int .i64 0, .slice none 0 0] 44)
  have g0 := grown_alloc w (.cells #[.int .i64 0, .slice none 0 0] 44) (some g)
  have hgl := hcur.lt
  have hw0 := hB.size
  have Q0 := Lib.hid q0
  have G0 := Lib.hid g0
  clear hcur q0 g0
  go_enter Try.func70, Try.ntmps70
  go_wp2_with fail
  refine (C4.out _ hc0 hb0).mono ?_
  rintro e w1 h
  obtain ⟨z, rfl, ⟨hz0, hz1⟩, hc1, hg1, hb1⟩ := h.step hb0
  have Q1 := Lib.hid ((hg1.block _ (blk_lt Q0.out) (fun e => by injection e with e; omega)).trans Q0.out)
  have G1 := Lib.hid (only_trans G0.out hg1)
  clear h hc0 hg1 Q0 G0 C4
  have hs2 : 2 + z ≤ 5 := by omega
  clear hz1
  obtain ⟨s, hs⟩ : ∃ s, 2 + z = s := ⟨_, rfl⟩
  have hs1 : 2 ≤ s := by omega
  rw [hs] at hs2
  have k2 := below_alloc w1 (.cells #[.int .i64 s, .slice none 0 0] 44)
  have Q2 := Lib.hid (blk_below k2 Q1.out)
  have P2 := Lib.hid (heap_alloc_new w1 (.cells #[.int .i64 s, .slice none 0 0] 44))
  have hc2 := hc1.below k2
  have hb2 := below_step hb1 k2
  have G2 := Lib.hid (only_below G1.out k2)
  have hsz : w.heap.size < w1.heap.size := blk_lt Q1.out
  obtain ⟨q, hq⟩ : ∃ q, w1.heap.size = q := ⟨_, rfl⟩
  have HQ := Lib.hid hq
  rw [hq] at P2 hsz
  have hcl1 := hc1.lt
  rw [hq] at hcl1
  clear hc1 hb1 Q1 G1 k2
  go_wp2_with fail
  go_loopw [4] (fun i wr => ∃ (k : Nat) (v : Value) (es : List Ed), k ≤ 10 ∧ i = .int .i64 k ∧ Hid (GOk s es) ∧ es.length ≤ k ∧ (1 ≤ k → 1 ≤ es.length) ∧
      wr.heap[q]? = some (.cells #[.int .i64 s, v] 44 (0, 0)) ∧ wr.heap[w.heap.size]? = some (.cells #[.int .i64 0, .slice none 0 0] 44 (0, 0)) ∧
      wr.ownsRow (q + 1) 62 3 v es.length (edCells es) ∧ CurAt w0 g wr ∧ Below w0.heap.size w0 wr ∧ w.grownBy wr (some g)) (fun i _ => 11 - (intOf i).toNat)
  case atStart =>
    exact ⟨0, _, [], by omega, rfl, gOk_nil (by omega) (by omega), Nat.le_refl _, fun h => by omega, P2.out, Q2.out, World.ownsRow_nil _ _ _ _, hc2, hb2, G2.out⟩
  case round =>
    clear P2 Q2 hc2 hb2 G2
    obtain ⟨k, v, es, hk, rfl, HG, hkl, hk1, hgr, hres, hown, hc, hb, hg⟩ := hrel
    have HR := Lib.hid hres
    have HGR := Lib.hid hgr
    clear hres hgr
    go_wp2_with fail
    refine (C9.out _ hc hb).mono ?_
    rintro e w3 h
    obtain ⟨y, rfl, ⟨hy0, hy1⟩, hc3, hg3, hb3⟩ := h.step hb
    have HR3 := Lib.hid ((hg3.block _ (blk_lt HR.out) (fun e => by injection e with e; omega)).trans HR.out)
    have HGR3 := Lib.hid ((hg3.block _ (blk_lt HGR.out) (fun e => by injection e with e; omega)).trans HGR.out)
    have hown3 := own_only hown hg3 (by omega)
    have G3 := Lib.hid (only_trans hg hg3)
    clear h hc hb hg3 HR HGR hown hg
    have hy2 : 2 + y ≤ 10 := by omega
    clear hy1
    obtain ⟨A, c, rfl, _, _⟩ := own_slice hown3
    have b0 := blk_cell (o := 0) HGR3.out rfl
    have b1 := blk_cell (o := 1) HGR3.out rfl
    by_cases hlt : (k : Int) < 2 + y
    · have hc4 : CurAt w0 g w3.drew := hc3
      have hb4 : Below w0.heap.size w0 w3.drew := hb3.drew
      go_wp2_with fail
      go_region_law (first
        | (go_simp
           go_at_call 119
           refine (l04Edge_any w0 g _ s (by omega) hc4 hb4).mono ?_
           rintro e w5 ⟨x, rfl, hx, hc5, hg5⟩
           have hb5 := below_only hb4 hg5 hc4.ge
           have HR5 := Lib.hid ((hg5.block _ (blk_lt (w := w3.drew) HR3.out) (fun e => by injection e with e; omega)).trans HR3.out)
           have HGR5 := Lib.hid ((hg5.block _ (blk_lt (w := w3.drew) HGR3.out) (fun e => by injection e with e; omega)).trans HGR3.out)
           have hown5 := own_only (w := w3.drew) hown3 hg5 (by omega)
           have G5 := Lib.hid (only_trans (only_drewN G3.out 1) hg5)
           have b05 := blk_cell (o := 0) HGR5.out rfl
           have b15 := blk_cell (o := 1) HGR5.out rfl)
        | (go_simp
           go_at_call 118
           refine (spec_GraphAdd_any s A c es x _ (Rd.of_own hown5) (by omega) (gOk_lab HG.out) (by omega)).mono ?_
           rintro e w6 ⟨A2, c2, rfl, own6, k6⟩
           have hc6 := hc5.below k6
           have hb6 := below_step hb5 k6
           have HR6 := Lib.hid (blk_below k6 HR5.out)
           have HGR6 := blk_below k6 HGR5.out
           have G6 := Lib.hid (only_below G5.out k6)
           have b06 := blk_cell (o := 0) HGR6 rfl
           have b16 := blk_cell (o := 1) HGR6 rfl
           have f06 : w6.frozen? ⟨q, 0, none⟩ = false := frozen_of_row w6 _ 0 _ _ HGR6
           have f16 : w6.frozen? ⟨q, 1, none⟩ = false := frozen_of_row w6 _ 1 _ _ HGR6
           have HGR6 := Lib.hid HGR6
           have hql := blk_lt HGR5.out))
      all_goals
        have hok : EdOk s x := by
          obtain ⟨h1, h2, h3, h4, h5, h6⟩ := hx
          exact ⟨by simp [vtxB, h1, h2], by simp [vtxB, h3, h4], by simp [lblB]; omega⟩
        have hput := Lib.hid (gaL_put HG.out hok (by omega))
        have hgp := Lib.hid (gOk_put HG.out hok (by omega))
        have hgl2 := put_len es x
        have HC6 := Lib.hid hc6
        clear hok b0 b1 b05 b15 b06 b16 hc3 hc4 hc5 hc6 hown3 hown5
        go_wp2
        go_roundw
        case rel =>
          refine ⟨k + 1, _, gaL s es x, by omega, by go_num, ?_, ?_, ?_, heap_setCell_same _ _ 1 _ _ _ (heap_setCell_same _ _ 0 _ _ _ HGR6.out), ?_, ?_, ?_, ?_, ?_⟩
          · show GOk _ _
            rw [hput.out]
            exact hgp.out
          · rw [hput.out]; omega
          · intro _
            rw [hput.out]; omega
          · rw [Below.heap_setCell _ _ _ _ (by simp; omega), Below.heap_setCell _ _ _ _ (by simp; omega)]
            exact HR6.out
          · exact own_mono (ownsRow_setCell_below (ownsRow_setCell_below own6 (a := ⟨q, 0, none⟩) (by simp; omega) _) (a := ⟨q, 1, none⟩) (by simp; omega) _) (by omega)
          · refine HC6.out.of_block ?_
            rw [Below.heap_setCell _ _ _ _ (by simp; omega), Below.heap_setCell _ _ _ _ (by simp; omega)]
          · exact (hb6.setCell (by simp; omega) _).setCell (by simp; omega) _
          · exact grown_new (grown_new G6.out (by omega) 0 _) (by omega) 1 _
        case measure => simp [intOf]; omega
    · have d0 := blk_cell (o := 0) HR3.out rfl
      have d1 := blk_cell (o := 1) HR3.out rfl
      have f0 : w3.frozen? ⟨w.heap.size, 0, none⟩ = false := frozen_of_row w3 _ 0 _ _ HR3.out
      have f1 : w3.frozen? ⟨w.heap.size, 1, none⟩ = false := frozen_of_row w3 _ 1 _ _ HR3.out
      have hq1 : w.heap.size ≤ q + 1 := by omega
      have hc3' := Lib.hid hc3
      clear hc3
      go_wp2
      refine bodyPost_ret (v := .agg #[.int .i64 s, .slice A es.length c]) (by simp [results, Try.results70, go_sem, d0, d1]) rfl ⟨s, A, c, es, rfl, HG.out, by omega, by omega, ?_, ?_, ?_⟩
      · refine hc3'.out.of_block ?_
        rw [Below.heap_setCell _ _ _ _ (by simp; omega), Below.heap_setCell _ _ _ _ (by simp; omega)]
      · exact own_mono (ownsRow_setCell_below (ownsRow_setCell_below hown3 (a := ⟨w.heap.size, 0, none⟩) (by simp; omega) _) (a := ⟨w.heap.size, 1, none⟩) (by simp; omega) _) hq1
      · exact grown_new (grown_new G3.out (Nat.le_refl _) 0 _) (Nat.le_refl _) 1 _
end Go.Proofs.Ytlnphcongijfiaa
