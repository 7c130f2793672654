/- GraphAdd: program and reference return the same, leave their arguments as they were, and what is returned is the caller's own. No conditions. -/
import Derived.Test.YtnhanakeijplcaaLPartOf
import Derived.Test.YtnhanakeijplcaaGAdd
import Derived.Test.YtnhanakeijplcaaToEdge
import Derived.Deep.DeepCutAuto
namespace Go.Proofs.Ytnhanakeijplcaa
open Go.RowKit

/-- A graph of the call's own in a variable of the call's own. -/
def OutG (w : World) (s : Int) (es : List Ed) (b : Bool) (p v : Value) (w' : World) : Prop :=
  ∃ g A c, p = .pointer (some ⟨g, 0, none⟩) ∧ v = .bool b ∧ w'.heap[g]? = some (.cells #[.int .i64 s, .slice A es.length c] 26 (0, 0)) ∧ w'.ownsRow w.heap.size 31 3 (.slice A es.length c) es.length (edCells es) ∧ w.heap.size ≤ g ∧ Below w.heap.size w w'

theorem OutG.new {w1 w' : World} {s : Int} {L : List Ed} {b : Bool} {A : Option Addr} {c B : Nat} (hT : Below w1.heap.size w1 w') (ho : w'.ownsRow B 31 3 (.slice A L.length c) L.length (edCells L)) (hB : w1.heap.size ≤ B) :
    OutG w1 s L b (.pointer (some ⟨w'.heap.size, 0, none⟩)) (.bool b) (w'.alloc (.cells #[.int .i64 s, .slice A L.length c] 26)) :=
  ⟨_, A, c, rfl, rfl, heap_alloc_new _ _, own_mono (own_below ho (below_alloc _ _)) hB, hT.size, below_step hT (below_alloc _ _)⟩
theorem OutG.set {w1 w' : World} {s : Int} {L : List Ed} {b : Bool} {A : Option Addr} {c B g : Nat} (hT : Below w1.heap.size w1 w') (ho : w'.ownsRow B 31 3 (.slice A L.length c) L.length (edCells L)) (hB : w1.heap.size ≤ B)
    (qB : w'.heap[g]? = some (.cells #[.int .i64 0, .slice none 0 0] 26 (0, 0))) (hg : w1.heap.size ≤ g) :
    OutG w1 s L b (.pointer (some ⟨g, 0, none⟩)) (.bool b) ((w'.setCell ⟨g, 0, none⟩ (.int .i64 s)).setCell ⟨g, 1, none⟩ (.slice A L.length c)) :=
  ⟨g, A, c, rfl, rfl, heap_setCell_same _ _ 1 _ _ _ (heap_setCell_same _ _ 0 _ _ _ qB), own_mono (own_setCell_other (own_setCell_other ho (row_ne ho qB (by decide)) _) (row_ne ho qB (by decide)) _) hB, hg, (hT.setCell hg _).setCell hg _⟩

set_option maxRecDepth 100000 in
set_option maxHeartbeats 6400000 in
theorem FnExactGraphAdd_walk (w : World) (v0 : Value) (s : Int) (es : List Ed) (h0 : GrK w v0 s es) (x : Ed) (hxo : x.ok) :
    Calls Try.prog 8 #[v0, x.val] w fun e w' => e = .returned (.bool true) ∧ Below w.heap.size w w' := by
  obtain ⟨_, A, c, rfl, hx, hlc, hcm, hok⟩ := h0
  have HL := Lib.hid (fun e he => (hok e he).2.1 : ∀ e ∈ es, 0 ≤ e.l ∧ e.l ≤ 255)
  have HX := Lib.hid hx
  have hxl := hxo.2.1
  clear hok hx hxo
  unfold maxLen at hcm
  obtain ⟨L, hL⟩ : ∃ L, gaL s es x = L := ⟨_, rfl⟩
  obtain ⟨b, hb⟩ : ∃ b, gaB s es x = b := ⟨_, rfl⟩
  have CS := Lib.hid (fun A c w hx (hn : es.length ≤ 1073741824) => spec_GraphAdd_any s A c es x w hx hn HL.out hxl)
  have CI := Lib.hid (fun A c w hx hn => impl_GraphAdd_any s A c es x w hx hn HL.out hxl)
  have TE := Lib.hid (fun w => toEdge_any x w)
  have hLl : L.length ≤ 2 * es.length + 1 := by
    have := putE_len es x
    rw [← hL]
    unfold gaL
    split <;> omega
  rw [hL, hb] at CS CI
  clear hL hb
  obtain ⟨xf, xl, xt⟩ := x
  unfold Ed.val at TE ⊢
  simp only at hxl CS CI TE ⊢
  have p1 := blk_below (below_alloc _ (.cells #[.int .i64 xf, .int .u8 xl, .int .i64 xt] 51)) (heap_alloc_new w (.cells #[.int .i64 s, .slice A es.length c] 41))
  have p2 : ((w.alloc (.cells #[.int .i64 s, .slice A es.length c] 41)).alloc (.cells #[.int .i64 xf, .int .u8 xl, .int .i64 xt] 51)).heap[w.heap.size + 1]? = some (.cells #[.int .i64 xf, .int .u8 xl, .int .i64 xt] 51 (0, 0)) := by
    have := heap_alloc_new (w.alloc (.cells #[.int .i64 s, .slice A es.length c] 41)) (.cells #[.int .i64 xf, .int .u8 xl, .int .i64 xt] 51)
    simpa using this
  have hB0 : Below w.heap.size w ((w.alloc (.cells #[.int .i64 s, .slice A es.length c] 41)).alloc (.cells #[.int .i64 xf, .int .u8 xl, .int .i64 xt] 51)) := below_step (below_alloc _ _) (below_alloc _ _)
  by_cases hb1 : (es.length : Int) ≤ 1048576
  · have S0 := Lib.hid (fun w => szGraph_any s A es.length c 1048576 w (by omega) (by omega))
    rw [if_pos hb1] at S0
    have hn : es.length ≤ 4294967296 := by omega
    have hn2 : es.length ≤ 1073741824 := by omega
    have hn3 : es.length ≤ 1048576 := by omega
    have hq : decide ((1048576 : Int) - (es.length : Int) < 0) = false := decide_eq_false (by omega)
    go_enter Try.func8, Try.ntmps8
    go_wp2_with fail
    refine (S0.out _).mono ?_
    rintro e w1 ⟨rfl, k1⟩
    have hB1 := below_step hB0 k1
    have q1 := blk_below k1 p1
    have q2 := blk_below k1 p2
    clear k1 hB0 p1 p2
    go_upto_region 5 with fail
    go_cut [6, 7] (fun sa sb wx => OutG w1 s L b sa sb wx)
    case first =>
      have MK := Lib.hid (fun (w' : World) (hB : Below w1.heap.size w1 w') => (⟨blk_cell (o := 0) (blk_below hB q1) rfl, blk_cell (o := 1) (blk_below hB q1) rfl, blk_cell (o := 0) (blk_below hB q2) rfl, blk_cell (o := 1) (blk_below hB q2) rfl, blk_cell (o := 2) (blk_below hB q2) rfl, hB⟩ : w'.cell? ⟨w.heap.size, 0, none⟩ = some (.int .i64 s) ∧ w'.cell? ⟨w.heap.size, 1, none⟩ = some (.slice A es.length c) ∧ w'.cell? ⟨w.heap.size + 1, 0, none⟩ = some (.int .i64 xf) ∧ w'.cell? ⟨w.heap.size + 1, 1, none⟩ = some (.int .u8 xl) ∧ w'.cell? ⟨w.heap.size + 1, 2, none⟩ = some (.int .i64 xt) ∧ Below w1.heap.size w1 w'))
      have B0 : Below w1.heap.size w1 w1.drew := (Below.refl _ _).drew
      go_region_held3 (fun w' => w'.cell? ⟨w.heap.size, 0, none⟩ = some (.int .i64 s) ∧ w'.cell? ⟨w.heap.size, 1, none⟩ = some (.slice A es.length c) ∧ w'.cell? ⟨w.heap.size + 1, 0, none⟩ = some (.int .i64 xf) ∧ w'.cell? ⟨w.heap.size + 1, 1, none⟩ = some (.int .u8 xl) ∧ w'.cell? ⟨w.heap.size + 1, 2, none⟩ = some (.int .i64 xt) ∧ Below w1.heap.size w1 w')
        ((first
          | (exact MK.out _ B0)
          | assumption
          | (go_split_ands; exact MK.out _ (below_step (by assumption) hbk))
          | (go_split_ands; exact MK.out _ (below_step (by assumption) (below_alloc _ _)))
          | (exact MK.out _ (below_step (by assumption) (below_alloc _ _)))
          | (exact MK.out _ (below_step (below_step B0 hbk) (below_alloc _ _)))
          | (go_split_ands; exact MK.out _ (Below.setCell (Below.setCell (by assumption) (by first | (simp; done) | (simp; omega)) _) (by first | (simp; done) | (simp; omega)) _))))
        ((
          first
            | (go_at_call 27
               go_split_ands
               refine (toGraph_any s A c es _ (HX.out.below (below_step hB1 (by assumption))) hn).mono ?_
               rintro e w' ⟨A3, c3, rfl, o3, hbk⟩
               have r3 := RdE.own o3
               clear o3
               have hT : Below w1.heap.size w1 w' := below_step (by assumption) hbk)
            | (go_at_call 39
               go_split_ands
               refine (TE.out _).mono ?_
               rintro e w' ⟨rfl, hbk⟩
               first | (have r3 := RdE.below r3 hbk) | (have r3 := RdE.below (RdE.alloc r3 _) hbk) | skip
               have hT : Below w1.heap.size w1 w' := below_step (by assumption) hbk)
            | (go_at_call 38
               go_split_ands
               refine (CS.out _ _ _ (by first | exact r3 | exact RdE.alloc r3 _) hn2).mono ?_
               rintro e w' ⟨A4, c4, rfl, o4, hbk⟩
               have hT : Below w1.heap.size w1 w' := below_step (by assumption) hbk)
          have hS := hT.size
          first
            | (have qB := blk_below hbk qB)
            | (have qB := blk_below hbk (heap_alloc_new _ (.cells #[.int .i64 0, .slice none 0 0] 26)))
            | (have qB := blk_below hbk (new_blkd _ #[.int .i64 0, .slice none 0 0] 26))
            | skip
          first
            | (have eB0 := blk_cell (o := 0) qB rfl
               have eB1 := blk_cell (o := 1) qB rfl
               have fB0 := frozen_of_row w' _ 0 _ _ qB
               have fB1 := frozen_of_row w' _ 1 _ _ qB)
            | skip
        ))
      all_goals
        go_wp2_with fail
        go_meet
        first
          | exact OutG.new hT o4 (by first | omega | (simp; done) | (simp; omega))
          | exact OutG.set hT o4 (by first | omega | (simp; done) | (simp; omega)) qB (by first | omega | (simp; done) | (simp; omega))
    case rest =>
      obtain ⟨g6, B0, d0, rfl, rfl, q6, o6, hg6, T3⟩ := hcut
      have q1 := blk_below T3 q1
      have q2 := blk_below T3 q2
      have hB3 := below_step hB1 T3
      have rB := RdE.own o6
      have b0 := blk_cell (o := 0) q1 rfl
      have b1 := blk_cell (o := 1) q1 rfl
      clear T3 hB1 o6
      obtain ⟨w3, hw3⟩ : ∃ w, wc = w := ⟨_, rfl⟩
      rw [hw3] at q1 q2 hB3 rB q6 b0 b1 ⊢
      clear hw3
      have hg63 := blk_lt q6
      have q63 := q6
      have q13 := q1
      have q23 := q2
      go_wp2_with fail
      refine (toGraph_any s A c es w3 (HX.out.below hB3) hn).mono ?_
      rintro e w4 ⟨A2, c2, rfl, o2, T4⟩
      have T5 := below_step T4 (below_alloc w4 (.cells #[.int .i64 s, .slice A2 es.length c2] 26))
      have o25 := own_below o2 (below_alloc w4 (.cells #[.int .i64 s, .slice A2 es.length c2] 26))
      have q8 : (w4.alloc (.cells #[.int .i64 s, .slice A2 es.length c2] 26)).heap[w4.heap.size]? = some (.cells #[.int .i64 s, .slice A2 es.length c2] 26 (0, 0)) := heap_alloc_new _ _
      have hsz : w4.heap.size < (w4.alloc (.cells #[.int .i64 s, .slice A2 es.length c2] 26)).heap.size := by simp
      have o2lt : ∀ r, (Value.slice A2 es.length c2).ownBlock = some r → r < w4.heap.size := fun r hr => (o2.lt r hr).2
      obtain ⟨g8, hg8⟩ : ∃ g, w4.heap.size = g := ⟨_, rfl⟩
      obtain ⟨w5, hw5⟩ : ∃ w5, w4.alloc (.cells #[.int .i64 s, .slice A2 es.length c2] 26) = w5 := ⟨_, rfl⟩
      rw [hg8] at q8 o2lt hsz
      rw [hw5] at q8 o25 T5 hsz
      clear o2 T4 b0 b1
      go_wp2_with fail
      clear hw5 hg8
      have q1 := blk_below T5 q1
      have q2 := blk_below T5 q2
      have q6 := blk_below T5 q6
      go_upto_region 7 with fail
      go_cut [9, 10] (fun sa sb wx => OutG w5 s L b sa sb wx)
      case first =>
        have MK := Lib.hid (fun (w' : World) (hB : Below w5.heap.size w5 w') => (⟨blk_cell (o := 0) (blk_below hB q8) rfl, blk_cell (o := 1) (blk_below hB q8) rfl, blk_cell (o := 0) (blk_below hB q2) rfl, blk_cell (o := 1) (blk_below hB q2) rfl, blk_cell (o := 2) (blk_below hB q2) rfl, hB⟩ : w'.cell? ⟨g8, 0, none⟩ = some (.int .i64 s) ∧ w'.cell? ⟨g8, 1, none⟩ = some (.slice A2 es.length c2) ∧ w'.cell? ⟨w.heap.size + 1, 0, none⟩ = some (.int .i64 xf) ∧ w'.cell? ⟨w.heap.size + 1, 1, none⟩ = some (.int .u8 xl) ∧ w'.cell? ⟨w.heap.size + 1, 2, none⟩ = some (.int .i64 xt) ∧ Below w5.heap.size w5 w'))
        have B0 : Below w5.heap.size w5 w5.drew := (Below.refl _ _).drew
        go_region_held3 (fun w' => w'.cell? ⟨g8, 0, none⟩ = some (.int .i64 s) ∧ w'.cell? ⟨g8, 1, none⟩ = some (.slice A2 es.length c2) ∧ w'.cell? ⟨w.heap.size + 1, 0, none⟩ = some (.int .i64 xf) ∧ w'.cell? ⟨w.heap.size + 1, 1, none⟩ = some (.int .u8 xl) ∧ w'.cell? ⟨w.heap.size + 1, 2, none⟩ = some (.int .i64 xt) ∧ Below w5.heap.size w5 w')
          ((first
            | (exact MK.out _ B0)
            | assumption
            | (go_split_ands; exact MK.out _ (below_step (by assumption) hbk))
            | (go_split_ands; exact MK.out _ (below_step (by assumption) (below_alloc _ _)))
            | (exact MK.out _ (below_step (by assumption) (below_alloc _ _)))
            | (exact MK.out _ (below_step (below_step B0 hbk) (below_alloc _ _)))
            | (go_split_ands; exact MK.out _ (Below.setCell (Below.setCell (by assumption) (by first | (simp; done) | (simp; omega)) _) (by first | (simp; done) | (simp; omega)) _))))
          ((
            first
              | (go_at_call 39
                 go_split_ands
                 refine (TE.out _).mono ?_
                 rintro e w' ⟨rfl, hbk⟩
                 first | (have r3 := RdE.below r3 hbk) | (have r3 := RdE.below (RdE.alloc r3 _) hbk) | skip
                 have hT : Below w5.heap.size w5 w' := below_step (by assumption) hbk)
              | (go_at_call 18
                 go_split_ands
                 refine (CI.out _ _ _ (by exact RdE.below (RdE.own o25) (by assumption)) hn3).mono ?_
                 rintro e w' ⟨A4, c4, rfl, o4, hbk⟩
                 have hT : Below w5.heap.size w5 w' := below_step (by assumption) hbk)
            have hS := hT.size
            first
              | (have qB := blk_below hbk qB)
              | (have qB := blk_below hbk (heap_alloc_new _ (.cells #[.int .i64 0, .slice none 0 0] 26)))
              | (have qB := blk_below hbk (new_blkd _ #[.int .i64 0, .slice none 0 0] 26))
              | skip
            first
              | (have eB0 := blk_cell (o := 0) qB rfl
                 have eB1 := blk_cell (o := 1) qB rfl
                 have fB0 := frozen_of_row w' _ 0 _ _ qB
                 have fB1 := frozen_of_row w' _ 1 _ _ qB)
              | skip
          ))
        all_goals
          go_wp2_with fail
          go_meet
          first
            | exact OutG.new hT o4 (by first | omega | (simp; done) | (simp; omega))
            | exact OutG.set hT o4 (by first | omega | (simp; done) | (simp; omega)) qB (by first | omega | (simp; done) | (simp; omega))
      case rest =>
        obtain ⟨g9, B1, d1, rfl, rfl, q9, o9, hg9, T6⟩ := hcut
        obtain ⟨w6, hw6⟩ : ∃ w, wc = w := ⟨_, rfl⟩
        rw [hw6] at T6 q9 o9 ⊢
        clear hw6
        have T36 := below_step T5 T6
        have q1 := blk_below T6 q1
        have q2 := blk_below T6 q2
        have q6 := blk_below T6 q6
        have q8 := blk_below T6 q8
        have o26 := own_below o25 T6
        have z0 := blk_cell (o := 0) q9 rfl
        have z1 := blk_cell (o := 1) q9 rfl
        have y0 := blk_cell (o := 0) q6 rfl
        have y1 := blk_cell (o := 1) q6 rfl
        have hbb : (b != b) = false := by simp
        have hs56 := T6.size
        clear T6 o25
        go_wp2_with fail
        refine (eqGraph_same s B1 B0 d1 d0 L w6 (RdE.own o9) (rB.below T36) (by omega)).mono ?_
        rintro e w7 ⟨rfl, k7⟩
        have T37 := below_step T36 k7
        have q1 := blk_below k7 q1
        have q2 := blk_below k7 q2
        have q6 := blk_below k7 q6
        have q8 := blk_below k7 q8
        have q9 := blk_below k7 q9
        have o27 := own_below o26 k7
        have o97 := own_below o9 k7
        clear T36 k7 o26 o9 z0 z1 y0 y1
        have MK := Lib.hid (fun (w' : World) (hB : Below w7.heap.size w7 w') => (⟨blk_cell (o := 0) (blk_below hB q1) rfl, blk_cell (o := 1) (blk_below hB q1) rfl, blk_cell (o := 0) (blk_below hB q8) rfl, blk_cell (o := 1) (blk_below hB q8) rfl, hB⟩ : w'.cell? ⟨w.heap.size, 0, none⟩ = some (.int .i64 s) ∧ w'.cell? ⟨w.heap.size, 1, none⟩ = some (.slice A es.length c) ∧ w'.cell? ⟨g8, 0, none⟩ = some (.int .i64 s) ∧ w'.cell? ⟨g8, 1, none⟩ = some (.slice A2 es.length c2) ∧ Below w7.heap.size w7 w'))
        have B0' : Below w7.heap.size w7 w7.drew := (Below.refl _ _).drew
        go_wp2_with fail
        go_region_held3 (fun w' => w'.cell? ⟨w.heap.size, 0, none⟩ = some (.int .i64 s) ∧ w'.cell? ⟨w.heap.size, 1, none⟩ = some (.slice A es.length c) ∧ w'.cell? ⟨g8, 0, none⟩ = some (.int .i64 s) ∧ w'.cell? ⟨g8, 1, none⟩ = some (.slice A2 es.length c2) ∧ Below w7.heap.size w7 w')
          ((first
            | (exact MK.out _ B0')
            | assumption
            | (go_split_ands; exact MK.out _ (below_step (by assumption) hbk))))
          ((first
            | (go_at_call 27; go_split_ands; refine (toGraph_any s A c es _ (HX.out.below (below_step hB3 (below_step T37 (by assumption)))) hn).mono ?_; rintro e w' ⟨A3, c3, rfl, o3, hbk⟩; have r3 := RdE.own o3; clear o3)
            | (go_at_call 28; go_split_ands; refine (eqGraph_same s A2 _ c2 _ es _ (RdE.below (RdE.own o27) (by assumption)) r3 hn).mono ?_; rintro e w' ⟨rfl, hbk⟩)))
        go_split_ands
        have U : Below w7.heap.size w7 w' := by assumption
        clear MK B0'
        have T38 := below_step T37 U
        have q1 := blk_below U q1
        have q2 := blk_below U q2
        have q6 := blk_below U q6
        have q8 := blk_below U q8
        have q9 := blk_below U q9
        have o28 := own_below o27 U
        have o98 := own_below o97 U
        have hneg : decide ((1 : Int) + 3 * (es.length : Int) < 0) = false := decide_eq_false (by omega)
        have hneg2 : decide ((1 : Int) + 3 * (L.length : Int) < 0) = false := decide_eq_false (by omega)
        have hsame : ((1 : Int) + 3 * (L.length : Int) != 1 + 3 * (L.length : Int)) = false := by simp
        clear T37 o27 o97 U
        go_wp2_with fail
        refine (markGraph_any w3.heap.size s A2 es.length c2 _ 1 w' o28 (by omega) hn).mono ?_
        rintro e w10 ⟨rfl, o210, g10⟩
        have T10 : Below w3.heap.size w3 w10 := T38.grown g10 T38.size (fun r hr => (o28.lt r hr).1)
        have hlow : ∀ r, (Value.slice A2 es.length c2).ownBlock = some r → r < w5.heap.size := fun r hr => by have := o2lt r hr; omega
        have o910 := o98.kept g10 (Classical.or_iff_not_imp_left.2 fun hne e => by
          cases hr : (Value.slice B1 L.length d1).ownBlock with
          | none => exact hne hr
          | some r =>
            have h3 := (o98.lt r hr).1
            have h4 := hlow r (e.symm.trans hr)
            omega)
        have hg69 : g6 < w3.heap.size := by assumption
        have q6 := blk_below T10 (by assumption : w3.heap[g6]? = some (.cells #[.int .i64 s, .slice B0 L.length d0] 26 (0, 0)))
        have q9 := (g10.block g9 (blk_lt q9) (fun e => by have := hlow g9 e.symm; omega)).trans q9
        have z0 := blk_cell (o := 0) q9 rfl
        have z1 := blk_cell (o := 1) q9 rfl
        have y0 := blk_cell (o := 0) q6 rfl
        have y1 := blk_cell (o := 1) q6 rfl
        clear o28 o98 g10 T38 o210
        go_wp2_with fail
        refine (eqGraph_same s B1 B0 d1 d0 L w10 (RdE.own o910) (rB.below T10) (by omega)).mono ?_
        rintro e w11 ⟨rfl, k11⟩
        have T11 := below_step T10 k11
        have o911 := own_below o910 k11
        have q9 := blk_below k11 q9
        have z0 := blk_cell (o := 0) q9 rfl
        have z1 := blk_cell (o := 1) q9 rfl
        clear T10 k11 o910 y0 y1
        go_wp2_with fail
        refine (markGraph_any w5.heap.size s B1 L.length d1 _ 1 w11 o911 (by omega) (by omega)).mono ?_
        rintro e w12 ⟨rfl, o912, g12⟩
        have h35 := T5.size
        have T12 : Below w3.heap.size w3 w12 := T11.grown g12 T11.size (fun r hr => by have := (o911.lt r hr).1; omega)
        have q9 := (g12.block g9 (blk_lt q9) (fun e => row_ne o911 q9 (by decide) e.symm)).trans q9
        have z0 := blk_cell (o := 0) q9 rfl
        have z1 := blk_cell (o := 1) q9 rfl
        clear o911 g12 T11
        go_wp2_with fail
        refine (heldGraph_any s B1 L.length d1 1 w12 (rdE_marks o912) (by omega) (by omega)).mono ?_
        rintro e w13 ⟨rfl, k13⟩
        have T13 := below_step T12 k13
        have o913 := own_below o912 k13
        have q9 := blk_below k13 q9
        have q1 := blk_below T13 q13
        have q2 := blk_below T13 q23
        have hB13 := below_step hB3 T13
        clear T12 k13 o912 z0 z1
        go_wp2_with fail
        go_upto_region 24 with fail
        go_cut [14, 15] (fun sa sb wx => OutG w13 s L b sa sb wx)
        case first =>
          have MK := Lib.hid (fun (w' : World) (hB : Below w13.heap.size w13 w') => (⟨blk_cell (o := 0) (blk_below hB q1) rfl, blk_cell (o := 1) (blk_below hB q1) rfl, blk_cell (o := 0) (blk_below hB q2) rfl, blk_cell (o := 1) (blk_below hB q2) rfl, blk_cell (o := 2) (blk_below hB q2) rfl, hB⟩ : w'.cell? ⟨w.heap.size, 0, none⟩ = some (.int .i64 s) ∧ w'.cell? ⟨w.heap.size, 1, none⟩ = some (.slice A es.length c) ∧ w'.cell? ⟨w.heap.size + 1, 0, none⟩ = some (.int .i64 xf) ∧ w'.cell? ⟨w.heap.size + 1, 1, none⟩ = some (.int .u8 xl) ∧ w'.cell? ⟨w.heap.size + 1, 2, none⟩ = some (.int .i64 xt) ∧ Below w13.heap.size w13 w'))
          have B0 : Below w13.heap.size w13 w13.drew := (Below.refl _ _).drew
          go_region_held3 (fun w' => w'.cell? ⟨w.heap.size, 0, none⟩ = some (.int .i64 s) ∧ w'.cell? ⟨w.heap.size, 1, none⟩ = some (.slice A es.length c) ∧ w'.cell? ⟨w.heap.size + 1, 0, none⟩ = some (.int .i64 xf) ∧ w'.cell? ⟨w.heap.size + 1, 1, none⟩ = some (.int .u8 xl) ∧ w'.cell? ⟨w.heap.size + 1, 2, none⟩ = some (.int .i64 xt) ∧ Below w13.heap.size w13 w')
            ((first
              | (exact MK.out _ B0)
              | assumption
              | (go_split_ands; exact MK.out _ (below_step (by assumption) hbk))
              | (go_split_ands; exact MK.out _ (below_step (by assumption) (below_alloc _ _)))
              | (exact MK.out _ (below_step (by assumption) (below_alloc _ _)))
              | (exact MK.out _ (below_step (below_step B0 hbk) (below_alloc _ _)))
              | (go_split_ands; exact MK.out _ (Below.setCell (Below.setCell (by assumption) (by first | (simp; done) | (simp; omega)) _) (by first | (simp; done) | (simp; omega)) _))))
            ((
              first
                | (go_at_call 27
                   go_split_ands
                   refine (toGraph_any s A c es _ (HX.out.below (below_step hB13 (by assumption))) hn).mono ?_
                   rintro e w' ⟨A3, c3, rfl, o3, hbk⟩
                   have r3 := RdE.own o3
                   clear o3
                   have hT : Below w13.heap.size w13 w' := below_step (by assumption) hbk)
                | (go_at_call 39
                   go_split_ands
                   refine (TE.out _).mono ?_
                   rintro e w' ⟨rfl, hbk⟩
                   first | (have r3 := RdE.below r3 hbk) | (have r3 := RdE.below (RdE.alloc r3 _) hbk) | skip
                   have hT : Below w13.heap.size w13 w' := below_step (by assumption) hbk)
                | (go_at_call 18
                   go_split_ands
                   refine (CI.out _ _ _ (by first | exact r3 | exact RdE.alloc r3 _) hn3).mono ?_
                   rintro e w' ⟨A4, c4, rfl, o4, hbk⟩
                   have hT : Below w13.heap.size w13 w' := below_step (by assumption) hbk)
              have hS := hT.size
              first
                | (have qB := blk_below hbk qB)
                | (have qB := blk_below hbk (heap_alloc_new _ (.cells #[.int .i64 0, .slice none 0 0] 26)))
                | (have qB := blk_below hbk (new_blkd _ #[.int .i64 0, .slice none 0 0] 26))
                | skip
              first
                | (have eB0 := blk_cell (o := 0) qB rfl
                   have eB1 := blk_cell (o := 1) qB rfl
                   have fB0 := frozen_of_row w' _ 0 _ _ qB
                   have fB1 := frozen_of_row w' _ 1 _ _ qB)
                | skip
            ))
          all_goals
            go_wp2_with fail
            go_meet
            first
              | exact OutG.new hT o4 (by first | omega | (simp; done) | (simp; omega))
              | exact OutG.set hT o4 (by first | omega | (simp; done) | (simp; omega)) qB (by first | omega | (simp; done) | (simp; omega))
        case rest =>
          obtain ⟨g14, B2, d2, rfl, rfl, q14, o14, hg14, T14⟩ := hcut
          obtain ⟨w14, hw14⟩ : ∃ w, wc = w := ⟨_, rfl⟩
          rw [hw14] at T14 q14 o14 ⊢
          clear hw14
          have T314 := below_step T13 T14
          have q6 := blk_below T314 q63
          have q9 := blk_below T14 q9
          have o914 := own_below o913 T14
          have z0 := blk_cell (o := 0) q14 rfl
          have z1 := blk_cell (o := 1) q14 rfl
          have y0 := blk_cell (o := 0) q6 rfl
          have y1 := blk_cell (o := 1) q6 rfl
          clear T13 T14 o913
          go_wp2_with fail
          refine (eqGraph_same s B2 B0 d2 d0 L w14 (RdE.own o14) (rB.below T314) (by omega)).mono ?_
          rintro e w15 ⟨rfl, k15⟩
          have T315 := below_step T314 k15
          have q9 := blk_below k15 q9
          have o915 := own_below o914 k15
          have z0 := blk_cell (o := 0) q9 rfl
          have z1 := blk_cell (o := 1) q9 rfl
          clear T314 k15 o914 y0 y1
          go_wp2_with fail
          refine (heldGraph_any s B1 L.length d1 1 w15 (rdE_marks o915) (by omega) (by omega)).mono ?_
          rintro e w16 ⟨rfl, k16⟩
          have T16 := below_step T315 k16
          go_wp2
          go_ret
          exact ⟨rfl, below_step hB3 T16⟩
  · have S0 := Lib.hid (fun w => szGraph_any s A es.length c 1048576 w (by omega) (by omega))
    rw [if_neg hb1] at S0
    go_enter Try.func8, Try.ntmps8
    go_wp2_with fail
    refine (S0.out _).mono ?_
    rintro e w1 ⟨rfl, k1⟩
    go_wp2
    go_ret
    exact ⟨rfl, below_step hB0 k1⟩
end Go.Proofs.Ytnhanakeijplcaa
