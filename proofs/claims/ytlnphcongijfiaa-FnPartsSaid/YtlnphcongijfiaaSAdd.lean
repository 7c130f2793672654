/- The reference's GraphAdd and its copy of a graph. Conditions: the labels' range and the size of a length. -/
import Derived.Test.YtlnphcongijfiaaPut
namespace Go.Proofs.Ytlnphcongijfiaa
open Go.RowKit

theorem PP_true {p : Prop} (h : PP p = true) : p := by
  unfold PP at h
  exact @of_decide_eq_true _ (Classical.propDecidable _) h
/-- What a call that makes a graph and a bool leaves. -/
def MadeT (w : World) (s : Int) (es : List Ed) (b : Bool) (e : Ending) (w' : World) : Prop :=
  ∃ A c, e = .returned (.tuple #[.agg #[.int .i64 s, .slice A es.length c], .bool b]) ∧ w'.ownsRow w.heap.size 62 3 (.slice A es.length c) es.length (edCells es) ∧ Below w.heap.size w w'
def gaP (s : Int) (es : List Ed) (x : Ed) : Prop := GOk s es ∧ GOk s (putE es x)
noncomputable def gaB (s : Int) (es : List Ed) (x : Ed) : Bool := PP (gaP s es x)
noncomputable def gaL (s : Int) (es : List Ed) (x : Ed) : List Ed := if gaB s es x then putE es x else es
theorem MadeT.of {w w' : World} {s : Int} {es es' : List Ed} {b b' : Bool} {e : Ending} (h1 : es = es') (h2 : b = b') (hm : MadeT w s es' b' e w') : MadeT w s es b e w' := h1 ▸ h2 ▸ hm
theorem putE_len (es : List Ed) (x : Ed) : (putE es x).length ≤ 2 * es.length + 1 := by
  unfold putE
  have h1 := List.length_filter_le (fun y => edLess y x) es
  have h2 := List.length_filter_le (fun y => edLess x y) es
  simp only [List.length_append, List.length_cons, List.length_nil]
  omega

set_option maxRecDepth 100000 in
set_option maxHeartbeats 3200000 in
theorem l04Copy_any (s : Int) (A : Option Addr) (c : Nat) (es : List Ed) (w : World) (hx : RdE w A es) (hn : es.length ≤ 4294967296) :
    Calls Try.prog 122 #[.agg #[.int .i64 s, .slice A es.length c]] w (MadeG w s es) := by
  obtain ⟨i0, hi, hz0, hz1, hz2⟩ := info_parts Try.infoEdge
  have p1 := blk_below (below_alloc _ (.cells #[.int .i64 0, .slice none 0 0] 44)) (heap_alloc_new w (.cells #[.int .i64 s, .slice A es.length c] 44))
  have p2 : ((w.alloc (.cells #[.int .i64 s, .slice A es.length c] 44)).alloc (.cells #[.int .i64 0, .slice none 0 0] 44)).heap[w.heap.size + 1]? = some (.cells #[.int .i64 0, .slice none 0 0] 44 (0, 0)) := by
    have := heap_alloc_new (w.alloc (.cells #[.int .i64 s, .slice A es.length c] 44)) (.cells #[.int .i64 0, .slice none 0 0] 44)
    simpa using this
  have B2 : Below w.heap.size w ((w.alloc (.cells #[.int .i64 s, .slice A es.length c] 44)).alloc (.cells #[.int .i64 0, .slice none 0 0] 44)) := below_step (below_alloc _ _) (below_alloc _ _)
  have hs2 : ((w.alloc (.cells #[.int .i64 s, .slice A es.length c] 44)).alloc (.cells #[.int .i64 0, .slice none 0 0] 44)).heap.size = w.heap.size + 2 := by simp
  have hX := (hx.alloc (.cells #[.int .i64 s, .slice A es.length c] 44)).alloc (.cells #[.int .i64 0, .slice none 0 0] 44)
  clear hx
  go_enter Try.func122, Try.ntmps122
  go_wp2_with fail
  obtain ⟨W, hW⟩ : ∃ W, (w.alloc (.cells #[.int .i64 s, .slice A es.length c] 44)).alloc (.cells #[.int .i64 0, .slice none 0 0] 44) = W := ⟨_, rfl⟩
  rw [hW] at p1 p2 B2 hs2 hX ⊢
  clear hW
  have a0 : W.cell? ⟨w.heap.size, 0, none⟩ = some (.int .i64 s) := blk_cell (w := W) (o := 0) p1 rfl
  have a1 : W.cell? ⟨w.heap.size, 1, none⟩ = some (.slice A es.length c) := blk_cell (w := W) (o := 1) p1 rfl
  have hl0 : w.heap.size < W.heap.size := by omega
  have hO : (W.alloc (.cells #[] 62)).drew.ownsRow W.heap.size 62 3 (.slice (some ⟨W.heap.size, 0, none⟩) 0 0) 0 [] :=
    World.ownsRow_made W (base := W.heap.size) (e := 62) (size := 3) #[] 0 (by omega) (by unfold maxLen; omega) rfl
  have hX3 : RdE (W.alloc (.cells #[] 62)).drew A es := hX.alloc _
  have P1 := Lib.hid p1
  have P2 := Lib.hid p2
  have BW := Lib.hid B2
  have HS := Lib.hid hs2
  have HO := Lib.hid hO
  have HX3 := Lib.hid hX3
  clear p1 p2 B2 hs2 hO hX hX3
  go_region_law (first
    | (refine step_append_any _ rfl (.tmp 5) (.tmp 7) 42 rfl W.heap.size 62 i0 _ 3 24 Try.underlying42 hi hz0 hz1 hz2 rfl (by decide) _ 0 [] rfl HO.out A es.length c (edCells es) rfl HX3.out (oneCell_ed es) (by unfold maxLen; omega) (by omega) (by simp) ?_
       intro v1 w3 hown3 hg3 _
       obtain ⟨A1, c1', rfl, _, _⟩ := own_slice hown3
       have r3 : w3.heap[w.heap.size + 1]? = some (.cells #[.int .i64 0, .slice none 0 0] 44 (0, 0)) := (hg3.block _ (Nat.lt_of_lt_of_le (blk_lt P2.out) (by simp)) (fun e => by have h9 : W.heap.size = w.heap.size + 2 := HS.out; have := (HO.out.lt _ e.symm).1; omega)).trans (blk_below (below_alloc W _).drew P2.out)
       have d0 := blk_cell (o := 0) r3 rfl
       have d1 := blk_cell (o := 1) r3 rfl
       have f0 : w3.frozen? ⟨w.heap.size + 1, 0, none⟩ = false := frozen_of_row w3 _ 0 _ _ r3
       have f1 : w3.frozen? ⟨w.heap.size + 1, 1, none⟩ = false := frozen_of_row w3 _ 1 _ _ r3
       have r1 : w3.heap[w.heap.size]? = some (.cells #[.int .i64 s, .slice A es.length c] 44 (0, 0)) := (hg3.block _ (Nat.lt_of_lt_of_le (blk_lt P1.out) (by simp)) (fun e => by have h9 : W.heap.size = w.heap.size + 2 := HS.out; have := (HO.out.lt _ e.symm).1; omega)).trans (blk_below (below_alloc W _).drew P1.out)
       have a03 := blk_cell (o := 0) r1 rfl
       have HO3 := Lib.hid hown3
       have B3 : Hid (Below w.heap.size w w3) := ((BW.out.alloc BW.out.size _).drew).grown hg3 (by have := BW.out.size; simp; omega) (fun k hk => by have h9 := BW.out.size; have := (HO.out.lt _ hk).1; omega)))
  all_goals
    have hlw : w.heap.size + 2 ≤ W.heap.size := by have := HS.out; omega
    clear a0 a1
    try clear a03
    go_wp2
    refine bodyPost_ret (v := .agg #[.int .i64 s, .slice A1 es.length c1']) (by simp [results, Try.results122, go_sem, d0, d1]) rfl ⟨A1, c1', rfl, ?_, ?_⟩
    · have hf := own_mono (ownsRow_setCell_below (ownsRow_setCell_below HO3.out (a := ⟨w.heap.size + 1, 0, none⟩) (by simp; omega) (.int .i64 s)) (a := ⟨w.heap.size + 1, 1, none⟩) (by simp; omega) (.slice A1 (0 + es.length) c1')) (show w.heap.size ≤ W.heap.size by omega)
      simpa using hf
    · have hf := (B3.out.setCell (p := ⟨w.heap.size + 1, 0, none⟩) (by simp) (.int .i64 s)).setCell (p := ⟨w.heap.size + 1, 1, none⟩) (by simp) (.slice A1 (0 + es.length) c1')
      simpa using hf
theorem new_blkd (w : World) (cs : Array Value) (t : TypeId) : (w.alloc (.cells cs t)).drew.heap[w.heap.size]? = some (.cells cs t (0, 0)) := heap_alloc_new w _
/-- The state behind the making of 'out' in GraphAdd. -/
structure GA (w : World) (s : Int) (A : Option Addr) (n c : Nat) (L : List Ed) (gO : Nat) (A1 : Option Addr) (c1 : Nat) (W : World) : Prop where
  box : W.heap[w.heap.size]? = some (.cells #[.int .i64 s, .slice A n c] 44 (0, 0))
  res : W.heap[w.heap.size + 2]? = some (.cells #[.int .i64 0, .slice none 0 0] 44 (0, 0))
  out : W.heap[gO]? = some (.cells #[.int .i64 s, .slice A1 L.length c1] 44 (0, 0))
  own : W.ownsRow (w.heap.size + 3) 62 3 (.slice A1 L.length c1) L.length (edCells L)
  bel : Below w.heap.size w W
theorem GA.keep {w W W' : World} {s : Int} {A A1 : Option Addr} {n c c1 gO : Nat} {L : List Ed} (h : GA w s A n c L gO A1 c1 W) (hb : Below W.heap.size W W') : GA w s A n c L gO A1 c1 W' :=
  ⟨blk_below hb h.box, blk_below hb h.res, blk_below hb h.out, own_below h.own hb, below_step h.bel hb⟩

theorem GA.mk1 {w W w' : World} {s : Int} {A A1 : Option Addr} {n c c1 : Nat} {L : List Ed} (p1 : W.heap[w.heap.size]? = some (.cells #[.int .i64 s, .slice A n c] 44 (0, 0))) (p3 : W.heap[w.heap.size + 2]? = some (.cells #[.int .i64 0, .slice none 0 0] 44 (0, 0)))
    (hB : Below w.heap.size w W) (hs : W.heap.size = w.heap.size + 3) (ho : w'.ownsRow W.drew.heap.size 62 3 (.slice A1 L.length c1) L.length (edCells L)) (hb : Below W.drew.heap.size W.drew w') :
    GA w s A n c L w'.heap.size A1 c1 (w'.alloc (.cells #[.int .i64 s, .slice A1 L.length c1] 44)) := by
  have hb2 : Below W.heap.size W w' := below_step (Below.refl _ _).drew hb
  refine ⟨blk_below (below_alloc _ _) (blk_below hb2 p1), blk_below (below_alloc _ _) (blk_below hb2 p3), heap_alloc_new _ _, own_below (own_mono ho ?_) (below_alloc _ _), below_step (below_step hB hb2) (below_alloc _ _)⟩
  have : W.drew.heap.size = W.heap.size := rfl
  omega
theorem GA.mk2 {w W w' : World} {s : Int} {A A1 : Option Addr} {n c c1 : Nat} {L : List Ed} {o : Obj} (p1 : W.heap[w.heap.size]? = some (.cells #[.int .i64 s, .slice A n c] 44 (0, 0))) (p3 : W.heap[w.heap.size + 2]? = some (.cells #[.int .i64 0, .slice none 0 0] 44 (0, 0)))
    (hB : Below w.heap.size w W) (hs : W.heap.size = w.heap.size + 3) (ho : w'.ownsRow (W.alloc o).drew.heap.size 62 3 (.slice A1 L.length c1) L.length (edCells L)) (hb : Below (W.alloc o).drew.heap.size (W.alloc o).drew w')
    (hq : w'.heap[W.heap.size]? = some (.cells #[.int .i64 0, .slice none 0 0] 44 (0, 0))) :
    GA w s A n c L W.heap.size A1 c1 ((w'.setCell ⟨W.heap.size, 0, none⟩ (.int .i64 s)).setCell ⟨W.heap.size, 1, none⟩ (.slice A1 L.length c1)) := by
  have hb2 : Below W.heap.size W w' := below_step (below_alloc _ _).drew hb
  have hb3 : Below W.heap.size W ((w'.setCell ⟨W.heap.size, 0, none⟩ (.int .i64 s)).setCell ⟨W.heap.size, 1, none⟩ (.slice A1 L.length c1)) := (hb2.setCell (p := ⟨W.heap.size, 0, none⟩) (Nat.le_refl _) _).setCell (p := ⟨W.heap.size, 1, none⟩) (Nat.le_refl _) _
  have hz : (W.alloc o).drew.heap.size = W.heap.size + 1 := by simp
  rw [hz] at ho
  have ho1 := own_mono (ownsRow_setCell_below (ownsRow_setCell_below ho (a := ⟨W.heap.size, 0, none⟩) (by simp) (.int .i64 s)) (a := ⟨W.heap.size, 1, none⟩) (by simp) (.slice A1 L.length c1)) (show w.heap.size + 3 ≤ W.heap.size + 1 by omega)
  exact ⟨blk_below hb3 p1, blk_below hb3 p3, heap_setCell_same _ _ 1 _ _ _ (heap_setCell_same _ _ 0 _ _ _ hq), ho1, below_step hB hb3⟩

set_option maxRecDepth 100000 in
set_option maxHeartbeats 6400000 in
theorem spec_GraphAdd_any (s : Int) (A : Option Addr) (c : Nat) (es : List Ed) (x : Ed) (w : World) (hx : RdE w A es) (hn : es.length ≤ 1073741824) (hl : ∀ e ∈ es, 0 ≤ e.l ∧ e.l ≤ 255) (hxl : 0 ≤ x.l ∧ x.l ≤ 255) :
    Calls Try.prog 118 #[.agg #[.int .i64 s, .slice A es.length c], .agg #[.int .i64 x.f, .int .u8 x.l, .int .i64 x.t]] w (MadeT w s (gaL s es x) (gaB s es x)) := by
  have hpl := putE_len es x
  have C := Lib.hid (fun w hx => l04Put_any A c es x w hx (by omega))
  have hlp : ∀ e ∈ putE es x, 0 ≤ e.l ∧ e.l ≤ 255 := by
    intro e he
    unfold putE at he
    simp only [List.mem_append, List.mem_filter, List.mem_cons, List.not_mem_nil, or_false] at he
    rcases he with (⟨h, _⟩ | rfl) | ⟨h, _⟩
    · exact hl e h
    · exact hxl
    · exact hl e h
  have G1 := Lib.hid (fun w hx => spec_GraphOk_any s A c es w hx (by omega) hl)
  have K1 := Lib.hid (fun w hx => l04Copy_any s A c es w hx (by omega))
  obtain ⟨L, hL⟩ : ∃ L, putE es x = L := ⟨_, rfl⟩
  have G2 := Lib.hid (fun A c w hx => spec_GraphOk_any s A c (putE es x) w hx (by omega) hlp)
  rw [hL] at C hpl G2
  obtain ⟨q1, hq1⟩ : ∃ q, PP (GOk s es) = q := ⟨_, rfl⟩
  obtain ⟨q2, hq2⟩ : ∃ q, PP (GOk s L) = q := ⟨_, rfl⟩
  rw [hq1] at G1
  rw [hq2] at G2
  have HGB : Hid (gaB s es x = (q1 && q2)) := by
    show _ = _
    unfold gaB gaP
    rw [hL]
    cases q1
    · rw [PP_no]; rfl
      intro h
      rw [PP_yes h.1] at hq1
      cases hq1
    · cases q2
      · rw [PP_no]; rfl
        intro h
        rw [PP_yes h.2] at hq2
        cases hq2
      · rw [PP_yes]; rfl
        exact ⟨PP_true hq1, PP_true hq2⟩
  have HGL : Hid (gaL s es x = if (q1 && q2) = true then L else es) := by
    show _ = _
    unfold gaL
    rw [HGB.out, hL]
  clear hL hq1 hq2 hl hlp
  have HX := Lib.hid hx
  clear hx
  obtain ⟨xf, xl, xt⟩ := x
  simp only at hxl C ⊢
  have p1 := blk_below (below_alloc _ (.cells #[.int .i64 0, .slice none 0 0] 44)) (blk_below (below_alloc _ (.cells #[.int .i64 xf, .int .u8 xl, .int .i64 xt] 62)) (heap_alloc_new w (.cells #[.int .i64 s, .slice A es.length c] 44)))
  have p2 : (((w.alloc (.cells #[.int .i64 s, .slice A es.length c] 44)).alloc (.cells #[.int .i64 xf, .int .u8 xl, .int .i64 xt] 62)).alloc (.cells #[.int .i64 0, .slice none 0 0] 44)).heap[w.heap.size + 1]? = some (.cells #[.int .i64 xf, .int .u8 xl, .int .i64 xt] 62 (0, 0)) := by
    have := blk_below (below_alloc _ (.cells #[.int .i64 0, .slice none 0 0] 44)) (heap_alloc_new (w.alloc (.cells #[.int .i64 s, .slice A es.length c] 44)) (.cells #[.int .i64 xf, .int .u8 xl, .int .i64 xt] 62))
    simpa using this
  have p3 : (((w.alloc (.cells #[.int .i64 s, .slice A es.length c] 44)).alloc (.cells #[.int .i64 xf, .int .u8 xl, .int .i64 xt] 62)).alloc (.cells #[.int .i64 0, .slice none 0 0] 44)).heap[w.heap.size + 2]? = some (.cells #[.int .i64 0, .slice none 0 0] 44 (0, 0)) := by
    have := heap_alloc_new ((w.alloc (.cells #[.int .i64 s, .slice A es.length c] 44)).alloc (.cells #[.int .i64 xf, .int .u8 xl, .int .i64 xt] 62)) (.cells #[.int .i64 0, .slice none 0 0] 44)
    simpa using this
  have B3 : Below w.heap.size w (((w.alloc (.cells #[.int .i64 s, .slice A es.length c] 44)).alloc (.cells #[.int .i64 xf, .int .u8 xl, .int .i64 xt] 62)).alloc (.cells #[.int .i64 0, .slice none 0 0] 44)) := below_step (below_step (below_alloc _ _) (below_alloc _ _)) (below_alloc _ _)
  have hs3 : (((w.alloc (.cells #[.int .i64 s, .slice A es.length c] 44)).alloc (.cells #[.int .i64 xf, .int .u8 xl, .int .i64 xt] 62)).alloc (.cells #[.int .i64 0, .slice none 0 0] 44)).heap.size = w.heap.size + 3 := by simp
  go_enter Try.func118, Try.ntmps118
  go_wp2_with fail
  obtain ⟨W, hW⟩ : ∃ W, ((w.alloc (.cells #[.int .i64 s, .slice A es.length c] 44)).alloc (.cells #[.int .i64 xf, .int .u8 xl, .int .i64 xt] 62)).alloc (.cells #[.int .i64 0, .slice none 0 0] 44) = W := ⟨_, rfl⟩
  rw [hW] at p1 p2 p3 B3 hs3 ⊢
  clear hW
  have a0 : W.cell? ⟨w.heap.size, 0, none⟩ = some (.int .i64 s) := blk_cell (o := 0) p1 rfl
  have a1 : W.cell? ⟨w.heap.size, 1, none⟩ = some (.slice A es.length c) := blk_cell (o := 1) p1 rfl
  have x0 : W.cell? ⟨w.heap.size + 1, 0, none⟩ = some (.int .i64 xf) := blk_cell (o := 0) p2 rfl
  have x1 : W.cell? ⟨w.heap.size + 1, 1, none⟩ = some (.int .u8 xl) := blk_cell (o := 1) p2 rfl
  have x2 : W.cell? ⟨w.heap.size + 1, 2, none⟩ = some (.int .i64 xt) := blk_cell (o := 2) p2 rfl
  have hl1 : w.heap.size + 1 < W.heap.size := by omega
  have hl0 : w.heap.size < W.heap.size := by omega
  have P1 := Lib.hid p1
  have P3 := Lib.hid p3
  have BW := Lib.hid B3
  have HS := Lib.hid hs3
  have MK := Lib.hid (fun (w' : World) (hB : Below W.heap.size W w') => (⟨held_step hB a0, held_step hB a1, held_step hB x0, held_step hB x1, held_step hB x2, hB⟩ : w'.cell? ⟨w.heap.size, 0, none⟩ = some (.int .i64 s) ∧ w'.cell? ⟨w.heap.size, 1, none⟩ = some (.slice A es.length c) ∧ w'.cell? ⟨w.heap.size + 1, 0, none⟩ = some (.int .i64 xf) ∧ w'.cell? ⟨w.heap.size + 1, 1, none⟩ = some (.int .u8 xl) ∧ w'.cell? ⟨w.heap.size + 1, 2, none⟩ = some (.int .i64 xt) ∧ Below W.heap.size W w'))
  have HX2 := Lib.hid (fun (w' : World) (hB : Below W.heap.size W w') => (HX.out.below BW.out).below hB)
  have B0 : Below W.heap.size W W.drew := (Below.refl _ _).drew
  have B1 : Below W.heap.size W (W.alloc (.cells #[.int .i64 0, .slice none 0 0] 44)).drew := (below_alloc _ _).drew
  clear p1 p3 B3 hs3
  go_region_held3 (fun w' => w'.cell? ⟨w.heap.size, 0, none⟩ = some (.int .i64 s) ∧ w'.cell? ⟨w.heap.size, 1, none⟩ = some (.slice A es.length c) ∧ w'.cell? ⟨w.heap.size + 1, 0, none⟩ = some (.int .i64 xf) ∧ w'.cell? ⟨w.heap.size + 1, 1, none⟩ = some (.int .u8 xl) ∧ w'.cell? ⟨w.heap.size + 1, 2, none⟩ = some (.int .i64 xt) ∧ Below W.heap.size W w')
    ((first
      | (exact MK.out _ B0)
      | assumption
      | (go_split_ands; exact MK.out _ (below_step (by assumption) hbk))
      | (go_split_ands; exact MK.out _ (below_step (by assumption) (below_alloc _ _)))
      | (exact MK.out _ (below_step (below_step B0 hbk) (below_alloc _ _)))
      | (exact MK.out _ (Below.setCell (Below.setCell (below_step B1 hbk) (Nat.le_refl _) _) (Nat.le_refl _) _))))
    ((go_at_call 63
      go_split_ands
      refine (C.out _ (HX2.out _ (by assumption))).mono ?_
      rintro e w' ⟨A1, c1, rfl, own1, hbk⟩
      first
        | (have qB := blk_below hbk (new_blkd W #[.int .i64 0, .slice none 0 0] 44)
           have eB0 := blk_cell (o := 0) qB rfl
           have eB1 := blk_cell (o := 1) qB rfl
           have fB0 : w'.frozen? ⟨W.heap.size, 0, none⟩ = false := frozen_of_row w' _ 0 _ _ qB
           have fB1 : w'.frozen? ⟨W.heap.size, 1, none⟩ = false := frozen_of_row w' _ 1 _ _ qB
           have QB := Lib.hid qB
           clear qB)
        | skip))
  all_goals
    first
      | (have hG := GA.mk1 P1.out P3.out BW.out HS.out own1 hbk
         have hlo : w.heap.size + 3 ≤ w'.heap.size := by have := HS.out; have := hbk.size; simp at this; omega
         obtain ⟨gO, hgO⟩ : ∃ g, w'.heap.size = g := ⟨_, rfl⟩
         obtain ⟨W', hW'⟩ : ∃ W', w'.alloc (.cells #[.int .i64 s, .slice A1 L.length c1] 44) = W' := ⟨_, rfl⟩
         rw [hgO, hW'] at hG
         rw [hgO] at hlo)
      | (have hG := GA.mk2 P1.out P3.out BW.out HS.out own1 hbk QB.out
         have hlo : w.heap.size + 3 ≤ W.heap.size := by have := HS.out; omega
         clear QB eB0 eB1 fB0 fB1
         obtain ⟨W', hW'⟩ : ∃ W', (w'.setCell ⟨W.heap.size, 0, none⟩ (.int .i64 s)).setCell ⟨W.heap.size, 1, none⟩ (.slice A1 L.length c1) = W' := ⟨_, rfl⟩
         rw [hW'] at hG
         obtain ⟨gO, hgO⟩ : ∃ g, W.heap.size = g := ⟨_, rfl⟩
         rw [hgO] at hG hlo hW')
    go_split_ands
    clear own1 hbk a0 a1 x0 x1 x2 hl0 hl1 MK HX2 B0 B1 P1 P3 C
    have c0 := blk_cell (o := 0) hG.box rfl
    have c1' := blk_cell (o := 1) hG.box rfl
    go_wp2_with fail
    rw [hgO]
    clear hW' hgO
    refine (G1.out _ (HX.out.below hG.bel)).mono ?_
    rintro e w4 ⟨rfl, k4⟩
    have h4 := hG.keep k4
    clear hG k4 c0 c1'
    cases q1
    · have c0 := blk_cell (o := 0) h4.box rfl
      have c1' := blk_cell (o := 1) h4.box rfl
      go_wp2_with fail
      refine (K1.out _ (HX.out.below h4.bel)).mono ?_
      rintro e w5 ⟨A2, c2, rfl, o5, k5⟩
      have h5 := h4.keep k5
      have hs5 := h4.bel.size
      have d0 := blk_cell (o := 0) h5.res rfl
      have d1 := blk_cell (o := 1) h5.res rfl
      have f0 : w5.frozen? ⟨w.heap.size + 2, 0, none⟩ = false := frozen_of_row w5 _ 0 _ _ h5.res
      have f1 : w5.frozen? ⟨w.heap.size + 2, 1, none⟩ = false := frozen_of_row w5 _ 1 _ _ h5.res
      have hl5 := blk_lt h4.res
      clear h4 k5 c0 c1'
      go_wp2
      refine bodyPost_ret (v := .tuple #[.agg #[.int .i64 s, .slice A2 es.length c2], .bool false]) (by simp [results, Try.results118, go_sem, d0, d1]) rfl (MadeT.of (by rw [HGL.out]; rfl) (by rw [HGB.out]; rfl) ⟨A2, c2, rfl, ?_, ?_⟩)
      · exact own_mono (ownsRow_setCell_below (ownsRow_setCell_below o5 (a := ⟨w.heap.size + 2, 0, none⟩) (by simp; omega) _) (a := ⟨w.heap.size + 2, 1, none⟩) (by simp; omega) _) hs5
      · exact (h5.bel.setCell (by show w.heap.size ≤ w.heap.size + 2; omega) _).setCell (by show w.heap.size ≤ w.heap.size + 2; omega) _
    · have c0 := blk_cell (o := 0) h4.out rfl
      have c1' := blk_cell (o := 1) h4.out rfl
      go_wp2_with fail
      refine (G2.out _ _ _ (Rd.of_own h4.own)).mono ?_
      rintro e w5 ⟨rfl, k5⟩
      have h5 := h4.keep k5
      clear h4 k5 c0 c1'
      cases q2
      · have c0 := blk_cell (o := 0) h5.box rfl
        have c1' := blk_cell (o := 1) h5.box rfl
        go_wp2_with fail
        refine (K1.out _ (HX.out.below h5.bel)).mono ?_
        rintro e w6 ⟨A2, c2, rfl, o6, k6⟩
        have h6 := h5.keep k6
        have hs6 := h5.bel.size
        have d0 := blk_cell (o := 0) h6.res rfl
        have d1 := blk_cell (o := 1) h6.res rfl
        have f0 : w6.frozen? ⟨w.heap.size + 2, 0, none⟩ = false := frozen_of_row w6 _ 0 _ _ h6.res
        have f1 : w6.frozen? ⟨w.heap.size + 2, 1, none⟩ = false := frozen_of_row w6 _ 1 _ _ h6.res
        have hl6 := blk_lt h5.res
        clear h5 k6 c0 c1'
        go_wp2
        refine bodyPost_ret (v := .tuple #[.agg #[.int .i64 s, .slice A2 es.length c2], .bool false]) (by simp [results, Try.results118, go_sem, d0, d1]) rfl (MadeT.of (by rw [HGL.out]; rfl) (by rw [HGB.out]; rfl) ⟨A2, c2, rfl, ?_, ?_⟩)
        · exact own_mono (ownsRow_setCell_below (ownsRow_setCell_below o6 (a := ⟨w.heap.size + 2, 0, none⟩) (by simp; omega) _) (a := ⟨w.heap.size + 2, 1, none⟩) (by simp; omega) _) hs6
        · exact (h6.bel.setCell (by show w.heap.size ≤ w.heap.size + 2; omega) _).setCell (by show w.heap.size ≤ w.heap.size + 2; omega) _
      · have c0 := blk_cell (o := 0) h5.out rfl
        have c1' := blk_cell (o := 1) h5.out rfl
        have d0 := blk_cell (o := 0) h5.res rfl
        have d1 := blk_cell (o := 1) h5.res rfl
        have f0 : w5.frozen? ⟨w.heap.size + 2, 0, none⟩ = false := frozen_of_row w5 _ 0 _ _ h5.res
        have f1 : w5.frozen? ⟨w.heap.size + 2, 1, none⟩ = false := frozen_of_row w5 _ 1 _ _ h5.res
        go_wp2
        refine bodyPost_ret (v := .tuple #[.agg #[.int .i64 s, .slice A1 L.length c1], .bool true]) (by simp [results, Try.results118, go_sem, d0, d1]) rfl (MadeT.of (by rw [HGL.out]; rfl) (by rw [HGB.out]; rfl) ⟨A1, c1, rfl, ?_, ?_⟩)
        · exact own_mono (ownsRow_setCell_below (ownsRow_setCell_below h5.own (a := ⟨w.heap.size + 2, 0, none⟩) (by simp) _) (a := ⟨w.heap.size + 2, 1, none⟩) (by simp) _) (by omega)
        · exact (h5.bel.setCell (by show w.heap.size ≤ w.heap.size + 2; omega) _).setCell (by show w.heap.size ≤ w.heap.size + 2; omega) _
end Go.Proofs.Ytlnphcongijfiaa
