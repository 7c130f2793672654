/- Any drawn graph; a text spoilt; the draws of GraphText and ReadGraph. No conditions but the length of the code. -/
import Derived.Test.YtlnphcongijfiaaDrawH
import Derived.Test.YtlnphcongijfiaaPut
namespace Go.Proofs.Ytlnphcongijfiaa
open Go.RowKit

/-- What the drawing of any graph leaves. -/
def DrawnA (w0 : World) (g : Nat) (w : World) (e : Ending) (w' : World) : Prop :=
  ∃ (s : Int) (A : Option Addr) (c : Nat) (es : List Ed), e = .returned (.agg #[.int .i64 s, .slice A es.length c]) ∧ es.length ≤ 11 ∧ (∀ e ∈ es, 0 ≤ e.l ∧ e.l ≤ 255) ∧ CurAt w0 g w' ∧ w'.ownsRow w.heap.size 62 3 (.slice A es.length c) es.length (edCells es) ∧ w.grownBy w' (some g)
/-- The state in the drawing of any graph: the result's block, the graph's block q, its row. -/
structure AnyG (w0 : World) (g : Nat) (w : World) (q b : Nat) (s : Int) (v : Value) (es : List Ed) (wr : World) : Prop where
  res : wr.heap[w.heap.size]? = some (.cells #[.int .i64 0, .slice none 0 0] 44 (0, 0))
  box : wr.heap[q]? = some (.cells #[.int .i64 s, v] 44 (0, 0))
  own : wr.ownsRow b 62 3 v es.length (edCells es)
  cur : CurAt w0 g wr
  gr : w.grownBy wr (some g)
  hb : w.heap.size < b
  hbq : b ≤ q
  hv : ∀ r, v.ownBlock = some r → r ≠ q
  hg : g < w.heap.size
theorem AnyG.made {w0 w wr : World} {g q b : Nat} {s : Int} {A : Option Addr} {c : Nat} {es : List Ed} (h : AnyG w0 g w q b s (.slice A es.length c) es wr) (hl : es.length ≤ 11) (hL : ∀ e ∈ es, 0 ≤ e.l ∧ e.l ≤ 255) :
    DrawnA w0 g w (.returned (.agg #[.int .i64 s, .slice A es.length c])) ((wr.setCell ⟨w.heap.size, 0, none⟩ (.int .i64 s)).setCell ⟨w.heap.size, 1, none⟩ (.slice A es.length c)) := by
  refine ⟨s, A, c, es, rfl, hl, hL, ?_, ?_, grown_new (grown_new h.gr (Nat.le_refl _) 0 _) (Nat.le_refl _) 1 _⟩
  · refine h.cur.of_block ?_
    have := h.hg
    rw [Below.heap_setCell _ _ _ _ (by simp; omega), Below.heap_setCell _ _ _ _ (by simp; omega)]
  · have := h.hb
    exact own_mono (ownsRow_setCell_below (ownsRow_setCell_below h.own (a := ⟨w.heap.size, 0, none⟩) (by simp; omega) _) (a := ⟨w.heap.size, 1, none⟩) (by simp; omega) _) (by omega)
theorem AnyG.made2 {w0 w wr : World} {g q b n : Nat} {s : Int} {A : Option Addr} {c : Nat} {es : List Ed} (h : AnyG w0 g w q b s (.slice A n c) es wr) (hn : n = es.length) (hl : es.length ≤ 11) (hL : ∀ e ∈ es, 0 ≤ e.l ∧ e.l ≤ 255) :
    DrawnA w0 g w (.returned (.agg #[.int .i64 s, .slice A n c])) ((wr.setCell ⟨w.heap.size, 0, none⟩ (.int .i64 s)).setCell ⟨w.heap.size, 1, none⟩ (.slice A n c)) := by
  subst hn
  exact h.made hl hL
theorem DrawnA.alloc {w0 w wr : World} {g : Nat} {e : Ending} (h : DrawnA w0 g w e wr) (o : Obj) : DrawnA w0 g w e (wr.alloc o) := by
  obtain ⟨s, A, c, es, rfl, h1, h2, h3, h4, h5⟩ := h
  exact ⟨s, A, c, es, rfl, h1, h2, h3.below (below_alloc _ _), own_below h4 (below_alloc _ _), only_alloc h5 o⟩
theorem AnyG.keep {w0 w wr wr' : World} {g q b : Nat} {s : Int} {v : Value} {es : List Ed} (h : AnyG w0 g w q b s v es wr) (hb : Below wr.heap.size wr wr') : AnyG w0 g w q b s v es wr' :=
  ⟨blk_below hb h.res, blk_below hb h.box, own_below h.own hb, h.cur.below hb, only_below h.gr hb, h.hb, h.hbq, h.hv, h.hg⟩
theorem AnyG.size {w0 w wr : World} {g q b : Nat} {s : Int} {v : Value} {es : List Ed} (h : AnyG w0 g w q b s v es wr) (s' : Int) : AnyG w0 g w q b s' v es (wr.setCell ⟨q, 0, none⟩ (.int .i64 s')) := by
  have h1 := h.hb
  have h2 := h.hbq
  have h3 := h.hg
  refine ⟨(Below.heap_setCell _ _ _ _ (by simp; omega)).trans h.res, heap_setCell_same _ _ 0 _ _ _ h.box, ?_, h.cur.of_block (Below.heap_setCell _ _ _ _ (by simp; omega)), grown_new h.gr (by omega) 0 _, h.hb, h.hbq, h.hv, h.hg⟩
  exact h.own.kept (only_setCell (World.grownBy.refl wr (some q)) 0 (.int .i64 s')) (.inr fun e => h.hv _ e rfl)
theorem AnyG.putq {w0 w wr w3 : World} {g q b : Nat} {s : Int} {v : Value} {es : List Ed} {o : Obj} (h : AnyG w0 g w q b s v es wr) (hg : (wr.alloc o).grownBy w3 v.ownBlock) : w3.heap[q]? = some (.cells #[.int .i64 s, v] 44 (0, 0)) :=
  (hg.block q (Nat.lt_of_lt_of_le (blk_lt h.box) (by simp)) (fun e => h.hv _ e.symm rfl)).trans (blk_below (below_alloc wr o) h.box)
theorem AnyG.drew {w0 w wr : World} {g q b : Nat} {s : Int} {v : Value} {es : List Ed} (h : AnyG w0 g w q b s v es wr) : AnyG w0 g w q b s v es wr.drew := h.keep (Below.refl _ _).drew
theorem AnyG.put {w0 w wr w3 : World} {g q b : Nat} {s : Int} {v v1 : Value} {es : List Ed} {x : Ed} {o : Obj} (h : AnyG w0 g w q b s v es wr) (ho : w3.ownsRow b 62 3 v1 (es.length + 1) (edCells es ++ [.int .i64 x.f, .int .u8 x.l, .int .i64 x.t])) (hg : (wr.alloc o).grownBy w3 v.ownBlock) (hv1 : ∀ r, v1.ownBlock = some r → r ≠ q) :
    w3.heap[q]? = some (.cells #[.int .i64 s, v] 44 (0, 0)) ∧ AnyG w0 g w q b s v1 (es ++ [x]) (w3.setCell ⟨q, 1, none⟩ v1) := by
  have h1 := h.hb
  have h2 := h.hbq
  have h3 := h.hg
  have hq : w3.heap[q]? = some (.cells #[.int .i64 s, v] 44 (0, 0)) := (hg.block q (Nat.lt_of_lt_of_le (blk_lt h.box) (by simp)) (fun e => h.hv _ e.symm rfl)).trans (blk_below (below_alloc wr o) h.box)
  have hres : w3.heap[w.heap.size]? = some (.cells #[.int .i64 0, .slice none 0 0] 44 (0, 0)) := (hg.block _ (Nat.lt_of_lt_of_le (blk_lt h.res) (by simp)) (fun e => by have := (h.own.lt _ e.symm).1; omega)).trans (blk_below (below_alloc wr o) h.res)
  refine ⟨hq, ⟨(Below.heap_setCell _ _ _ _ (by simp; omega)).trans hres, heap_setCell_same _ _ 1 _ _ _ hq, ?_, ?_, ?_, h.hb, h.hbq, hv1, h.hg⟩⟩
  · have ho2 : w3.ownsRow b 62 3 v1 (es ++ [x]).length (edCells (es ++ [x])) := by
      simpa [edCells_append, edCells] using ho
    exact ho2.kept (only_setCell (World.grownBy.refl w3 (some q)) 1 v1) (.inr fun e => hv1 _ e rfl)
  · exact ((h.cur.below (below_alloc wr o)).grown hg (fun e => by have := (h.own.lt _ e.symm).1; omega)).of_block (Below.heap_setCell _ _ _ _ (by simp; omega))
  · exact grown_new (only_row (only_alloc h.gr o) hg (fun r hr => by have := (h.own.lt r hr).1; omega)) (by omega) 1 _
/-- An appended row is the old one or a new one: not a block that is neither. -/
theorem grown_row_ne {w3 : World} {q b : Nat} {e : TypeId} {sz : Nat} {v1 : Value} {m : Nat} {ys : List Value} {cs : Array Value} {t : TypeId} {fz : Nat × Nat} (ho : w3.ownsRow b e sz v1 m ys) (hq : w3.heap[q]? = some (.cells cs t fz)) (ht : t ≠ e) : ∀ r, v1.ownBlock = some r → r ≠ q := by
  intro r hr hrq
  subst hrq
  rcases ho.2 with ⟨rfl, _⟩ | ⟨g, cap, cur, rfl, _, hg, _⟩
  · simp [Value.ownBlock] at hr
  · simp only [Value.ownBlock, Option.some.injEq] at hr
    subst hr
    rw [hg] at hq
    injection hq with hq
    injection hq with _ h2 _
    exact ht h2.symm

set_option maxRecDepth 100000 in
set_option maxHeartbeats 6400000 in
theorem l04Any_any (w0 : World) (g : Nat) (w : World) (hcur : CurAt w0 g w) (hB : Below w0.heap.size w0 w) :
    Calls Try.prog 77 #[.pointer (some ⟨g, 0, none⟩)] w (DrawnA w0 g w) := by
  obtain ⟨i0, hi, hz0, hz1, hz2⟩ := info_parts Try.infoEdge
  have C12 := Lib.hid (fun w h1 h2 => l01Below_any w0 g w 12 (by omega) h1 h2)
  have C60 := Lib.hid (fun w h1 h2 => l01Below_any w0 g w 60 (by omega) h1 h2)
  have q0 := heap_alloc_new w (.cells #[.int .i64 0, .slice none 0 0] 44)
  have hc0 := hcur.below (below_alloc w (.cells #[.int .i64 0, .slice none 0 0] 44))
  have hb0 := hB.alloc hB.size (.cells #[.int .i64 0, .slice none 0 0] 44)
  have g0 := grown_alloc w (.cells #[.int .i64 0, .slice none 0 0] 44) (some g)
  have hgl := hcur.lt
  have Q0 := Lib.hid q0
  have G0 := Lib.hid g0
  clear hcur q0 g0
  go_enter Try.func77, Try.ntmps77
  go_wp2_with fail
  refine (C12.out _ hc0 hb0).mono ?_
  rintro e w1 h
  obtain ⟨k, rfl, ⟨hk0, hk1⟩, hc1, hg1, hb1⟩ := h.step hb0
  have Q1 := Lib.hid ((hg1.block _ (blk_lt Q0.out) (fun e => by injection e with e; omega)).trans Q0.out)
  have G1 := Lib.hid (only_trans G0.out hg1)
  clear h hc0 hg1 Q0 G0 C12 hb0
  go_wp2_with fail
  refine (C60.out _ hc1 hb1).mono ?_
  rintro e w2 h
  obtain ⟨x, rfl, ⟨hx0, hx1⟩, hc2, hg2, hb2⟩ := h.step hb1
  have Q2 := Lib.hid ((hg2.block _ (blk_lt Q1.out) (fun e => by injection e with e; omega)).trans Q1.out)
  have G2 := Lib.hid (only_trans G1.out hg2)
  clear h hc1 hg2 Q1 G1 C60 hb1
  have hx60 : x < 60 := by omega
  have hk12 : k < 12 := by omega
  clear hx1 hk1
  go_wp2_with fail
  refine (l04Graph_any w0 g w2 hc2 hb2).mono ?_
  rintro e w3 ⟨s, A, c, es, rfl, hok, hl1, hl10, hc3, own3, hg3⟩
  have hb3 := below_only hb2 hg3 hc2.ge
  have Q3 := Lib.hid ((hg3.block _ (blk_lt Q2.out) (fun e => by injection e with e; omega)).trans Q2.out)
  have G3 := Lib.hid (only_trans G2.out hg3)
  have HL := Lib.hid (gOk_lab hok)
  have hw2 : w.heap.size < w3.heap.size := blk_lt Q3.out
  clear hc2 hb2 hg3 Q2 G2 hok
  go_wp2_with fail
  refine (l04Copy_any s A c es w3 (Rd.of_own own3) (by omega)).mono ?_
  rintro e w4 ⟨A2, c2, rfl, own4, k4⟩
  have ka := below_alloc w4 (.cells #[.int .i64 s, .slice A2 es.length c2] 44)
  have I5 : AnyG w0 g w w4.heap.size w3.heap.size s (.slice A2 es.length c2) es (w4.alloc (.cells #[.int .i64 s, .slice A2 es.length c2] 44)) :=
    ⟨blk_below ka (blk_below k4 Q3.out), heap_alloc_new _ _, own_below own4 ka, (hc3.below k4).below ka, only_below (only_below G3.out k4) ka, hw2, k4.size, fun r hr => by have := (own4.lt r hr).2; omega, hgl⟩
  clear own3 own4 k4 ka Q3 G3 hc3 hb3
  obtain ⟨q, hq⟩ : ∃ q, w4.heap.size = q := ⟨_, rfl⟩
  obtain ⟨b, hbb⟩ : ∃ b, w3.heap.size = b := ⟨_, rfl⟩
  obtain ⟨W, hW⟩ : ∃ W, w4.alloc (.cells #[.int .i64 s, .slice A2 es.length c2] 44) = W := ⟨_, rfl⟩
  rw [hq, hbb, hW] at I5
  clear hbb hw2
  have HI := Lib.hid I5
  have b0 := blk_cell (o := 0) I5.box rfl
  have b1 := blk_cell (o := 1) I5.box rfl
  have d0 := blk_cell (o := 0) I5.res rfl
  have d1 := blk_cell (o := 1) I5.res rfl
  have f0 : W.frozen? ⟨w.heap.size, 0, none⟩ = false := frozen_of_row W _ 0 _ _ I5.res
  have f1 : W.frozen? ⟨w.heap.size, 1, none⟩ = false := frozen_of_row W _ 1 _ _ I5.res
  have e0 : W.frozen? ⟨q, 0, none⟩ = false := frozen_of_row W _ 0 _ _ I5.box
  have e1 : W.frozen? ⟨q, 1, none⟩ = false := frozen_of_row W _ 1 _ _ I5.box
  have hqw : w.heap.size < q := by have := I5.hb; have := I5.hbq; omega
  clear I5
  have hql := blk_lt HI.out.box
  have hwl := blk_lt HI.out.res
  rcases (by omega : k = 0 ∨ k = 1 ∨ k = 2 ∨ 3 ≤ k) with rfl | rfl | rfl | hk3
  · have hcase : ∃ z : Int, (x % 5 = 0 ∧ z = 0) ∨ (x % 5 = 1 ∧ z = 1) ∨ (x % 5 = 2 ∧ z = 12) ∨ (x % 5 = 3 ∧ z = 13) ∨ (x % 5 = 4 ∧ z = -9223372036854775808) := by
      rcases (by omega : x % 5 = 0 ∨ x % 5 = 1 ∨ x % 5 = 2 ∨ x % 5 = 3 ∨ x % 5 = 4) with h | h | h | h | h
      · exact ⟨0, .inl ⟨h, rfl⟩⟩
      · exact ⟨1, .inr (.inl ⟨h, rfl⟩)⟩
      · exact ⟨12, .inr (.inr (.inl ⟨h, rfl⟩))⟩
      · exact ⟨13, .inr (.inr (.inr (.inl ⟨h, rfl⟩)))⟩
      · exact ⟨-9223372036854775808, .inr (.inr (.inr (.inr ⟨h, rfl⟩)))⟩
    obtain ⟨z, hz⟩ := hcase
    have I6 := HI.out.size z
    have r0 := blk_cell (o := 0) I6.res rfl
    have r1 := blk_cell (o := 1) I6.res rfl
    have HI6 := Lib.hid I6
    clear I6
    rcases hz with ⟨hm, rfl⟩ | ⟨hm, rfl⟩ | ⟨hm, rfl⟩ | ⟨hm, rfl⟩ | ⟨hm, rfl⟩
    all_goals
      go_wp2
      refine bodyPost_ret (v := .agg #[.int .i64 _, .slice A2 es.length c2]) (by simp [results, Try.results77, go_sem, r0, r1, hwl]) rfl ((HI6.out.made (by omega) HL.out).alloc _)
  · obtain ⟨f, hf⟩ : ∃ f, x % 7 = f := ⟨_, rfl⟩
    obtain ⟨l, hl⟩ : ∃ l, 95 + x % 8 = l := ⟨_, rfl⟩
    obtain ⟨t, ht⟩ : ∃ t, x % 6 = t := ⟨_, rfl⟩
    have hlb : 0 ≤ l ∧ l ≤ 255 := by omega
    have ll : IntKind.u8.wrap l = l := by rw [IntKind.wrap_u8]; omega
    have HLB := Lib.hid hlb
    clear hlb
    go_wp2_with (first
      | (at_builtin
         refine wpList_append_any _ rfl (.tmp 25) (.tmp 35) 42 rfl b 62 i0 _ 3 24 Try.underlying42 hi hz0 hz1 hz2 rfl (by decide) _ es.length (edCells es) rfl (HI.out.own.alloc _) (some ⟨W.heap.size, 0, none⟩) 1 1 [.int .i64 f, .int .u8 l, .int .i64 t] rfl (Rd.new3 W _ _ _ _) (by intro u hu; simp at hu; rcases hu with rfl | rfl | rfl <;> rfl) (by unfold maxLen; omega) (by omega) (by have := HI.out.hbq; simp; omega) ?_
         intro v1 w3 hown3 hg3 _
         obtain ⟨A3, c3, rfl, _, _⟩ := own_slice hown3
         have hq3 := HI.out.putq hg3
         have I7 := (HI.out.put (x := ⟨f, l, t⟩) hown3 hg3 (grown_row_ne hown3 hq3 (by decide))).2
         have g1 := blk_cell (o := 1) hq3 rfl
         have h1 : w3.frozen? ⟨q, 1, none⟩ = false := frozen_of_row w3 _ 1 _ _ hq3
         have g0' := blk_cell (o := 0) I7.box rfl
         have g1' := blk_cell (o := 1) I7.box rfl
         have r0 := blk_cell (o := 0) I7.res rfl
         have r1 := blk_cell (o := 1) I7.res rfl
         have p0 : (w3.setCell ⟨q, 1, none⟩ (.slice A3 (es.length + 1) c3)).frozen? ⟨w.heap.size, 0, none⟩ = false := frozen_of_row _ _ 0 _ _ I7.res
         have p1 : (w3.setCell ⟨q, 1, none⟩ (.slice A3 (es.length + 1) c3)).frozen? ⟨w.heap.size, 1, none⟩ = false := frozen_of_row _ _ 1 _ _ I7.res
         have HI7 := Lib.hid I7
         clear I7 hq3))
    have hfin := HI7.out.made2 (by simp) (by simp; omega) (by
      intro e he
      rcases List.mem_append.1 he with h | h
      · exact HL.out e h
      · simp at h; subst h; exact HLB.out)
    refine bodyPost_ret (v := .agg #[.int .i64 s, .slice A3 (es.length + 1) c3]) (by simp [results, Try.results77, go_sem, r0, r1]) rfl hfin
  · have hpos : decide ((0 : Int) < (es.length : Int)) = true := decide_eq_true (by omega)
    have hpos2 : 0 < es.length := by omega
    obtain ⟨gr, cap, hv, _, _⟩ := HI.out.own.form (by omega)
    injection hv with hv1 _ hv3
    subst hv1 hv3
    have hown := HI.out.own
    obtain ⟨y, hy⟩ : ∃ y, es[0] = y := ⟨_, rfl⟩
    have hylab := HL.out y (by rw [← hy]; exact List.getElem_mem hpos2)
    obtain ⟨y0, y1, y2⟩ := edCells_at es 0 hpos2
    rw [hy] at y0 y1 y2
    have u0 := hown.cells (g := gr) rfl 0 _ y0
    have u1 := hown.cells (g := gr) rfl 1 _ y1
    have u2 := hown.cells (g := gr) rfl 2 _ y2
    simp [Addr.add] at u0 u1 u2
    have hgrl := (hown.lt gr rfl).2
    have HLB := Lib.hid hylab
    obtain ⟨f, l, t⟩ := y
    simp only at u0 u1 u2
    clear hown hy y0 y1 y2 hylab
    go_wp2_with fail
    have HID := Lib.hid HI.out.drew
    go_region_law (first
      | (refine step_append_any _ rfl (.tmp 45) (.tmp 50) 42 rfl b 62 i0 _ 3 24 Try.underlying42 hi hz0 hz1 hz2 rfl (by decide) _ es.length (edCells es) rfl (HID.out.own.alloc _) (some ⟨W.heap.size, 0, none⟩) 1 1 [.int .i64 f, .int .u8 l, .int .i64 t] rfl (Rd.new3 W.drew _ _ _ _) (by intro u hu; simp at hu; rcases hu with rfl | rfl | rfl <;> rfl) (by unfold maxLen; omega) (by omega) (by have := HI.out.hbq; simp; omega) ?_
         intro v1 w3 hown3 hg3 _
         obtain ⟨A3, c3, rfl, _, _⟩ := own_slice hown3
         have hq3 := HID.out.putq hg3
         have I7 := (HID.out.put (x := ⟨f, l, t⟩) hown3 hg3 (grown_row_ne hown3 hq3 (by decide))).2
         have g1 := blk_cell (o := 1) hq3 rfl
         have h1 : w3.frozen? ⟨q, 1, none⟩ = false := frozen_of_row w3 _ 1 _ _ hq3
         have g0' := blk_cell (o := 0) I7.box rfl
         have g1' := blk_cell (o := 1) I7.box rfl
         have r0 := blk_cell (o := 0) I7.res rfl
         have r1 := blk_cell (o := 1) I7.res rfl
         have p0 : (w3.setCell ⟨q, 1, none⟩ (.slice A3 (es.length + 1) c3)).frozen? ⟨w.heap.size, 0, none⟩ = false := frozen_of_row _ _ 0 _ _ I7.res
         have p1 : (w3.setCell ⟨q, 1, none⟩ (.slice A3 (es.length + 1) c3)).frozen? ⟨w.heap.size, 1, none⟩ = false := frozen_of_row _ _ 1 _ _ I7.res
         have HI7 := Lib.hid I7
         clear I7 hq3))
    all_goals
      have hfin := HI7.out.made2 (by simp) (by simp; omega) (by
        intro e he
        rcases List.mem_append.1 he with h | h
        · exact HL.out e h
        · simp at h; subst h; exact HLB.out)
      have HF := Lib.hid hfin
      clear hfin u0 u1 u2
      go_wp2
      refine bodyPost_ret (v := .agg #[.int .i64 s, .slice A3 (es.length + 1) c3]) (by simp [results, Try.results77, go_sem, r0, r1]) rfl HF.out
  · have t0 : (k == 0) = false := by rw [beq_eq_false_iff_ne]; omega
    have t1 : (k == 1) = false := by rw [beq_eq_false_iff_ne]; omega
    have t2 : (k == 2) = false := by rw [beq_eq_false_iff_ne]; omega
    go_wp2
    refine bodyPost_ret (v := .agg #[.int .i64 s, .slice A2 es.length c2]) (by simp [results, Try.results77, go_sem, d0, d1]) rfl (HI.out.made (by omega) HL.out)
end Go.Proofs.Ytlnphcongijfiaa
