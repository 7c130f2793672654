/- GraphAdd: the program's function. Conditions: the labels' range and the size of a length. -/
import Derived.Test.YtlnphcongijfiaaBsf
import Derived.Test.YtlnphcongijfiaaClone
import Derived.Test.YtlnphcongijfiaaIns
namespace Go.Proofs.Ytlnphcongijfiaa
open Go.RowKit

/-- What GraphAdd keeps. -/
structure GI (w : World) (s : Int) (A : Option Addr) (n c : Nat) (x : Ed) (L : List Ed) (gO : Nat) (A1 : Option Addr) (c1 : Nat) (W : World) : Prop where
  box : W.heap[w.heap.size]? = some (.cells #[.int .i64 s, .slice A n c] 44 (0, 0))
  boe : W.heap[w.heap.size + 1]? = some (.cells #[.int .i64 x.f, .int .u8 x.l, .int .i64 x.t] 62 (0, 0))
  res : W.heap[w.heap.size + 2]? = some (.cells #[.int .i64 0, .slice none 0 0] 44 (0, 0))
  out : W.heap[gO]? = some (.cells #[.int .i64 s, .slice A1 L.length c1] 44 (0, 0))
  own : W.ownsRow (w.heap.size + 3) 62 3 (.slice A1 L.length c1) L.length (edCells L)
  ne : (Value.slice A1 L.length c1).ownBlock ≠ some gO
  lo : w.heap.size + 3 ≤ gO
  bel : Below w.heap.size w W
theorem GI.keep {w W W' : World} {s : Int} {A A1 : Option Addr} {n c c1 gO : Nat} {x : Ed} {L : List Ed} (h : GI w s A n c x L gO A1 c1 W) (hb : Below W.heap.size W W') : GI w s A n c x L gO A1 c1 W' :=
  ⟨blk_below hb h.box, blk_below hb h.boe, blk_below hb h.res, blk_below hb h.out, own_below h.own hb, h.ne, h.lo, below_step h.bel hb⟩
theorem ne_of_lt {w : World} {base : Nat} {e : TypeId} {k n g : Nat} {v : Value} {xs : List Value} (h : w.ownsRow base e k v n xs) (hg : w.heap.size ≤ g) : v.ownBlock ≠ some g := fun he => by
  have := (h.lt g he).2
  omega

/-- A row is not a block of another type. -/
theorem row_ne {w : World} {q b : Nat} {e : TypeId} {sz : Nat} {v : Value} {m : Nat} {ys : List Value} {cs : Array Value} {t : TypeId} {fz : Nat × Nat} (ho : w.ownsRow b e sz v m ys) (hq : w.heap[q]? = some (.cells cs t fz)) (ht : t ≠ e) : v.ownBlock ≠ some q := by
  intro hr
  rcases ho.2 with ⟨rfl, _⟩ | ⟨g, cap, cur, rfl, _, hg, _⟩
  · simp [Value.ownBlock] at hr
  · simp only [Value.ownBlock, Option.some.injEq] at hr
    subst hr
    rw [hg] at hq
    injection hq with hq
    injection hq with _ h2 _
    exact ht h2.symm
theorem own_setCell_other {w : World} {b : Nat} {e : TypeId} {sz : Nat} {v : Value} {m : Nat} {ys : List Value} (ho : w.ownsRow b e sz v m ys) {a : Addr} (hne : v.ownBlock ≠ some a.block) (u : Value) : (w.setCell a u).ownsRow b e sz v m ys := by
  refine ho.kept (row := some a.block) ⟨rfl, rfl, rfl, by simp [World.setCell], fun i _ hi => Below.heap_setCell _ _ _ _ (fun h => hi (by rw [h]))⟩ ?_
  exact .inr hne
theorem GI.put {w W w5 : World} {s : Int} {A A1 A' : Option Addr} {n c c1 c' m gO : Nat} {x : Ed} {L L' : List Ed} (h : GI w s A n c x L gO A1 c1 W) (o : Obj) (hm : L'.length = m)
    (ho : w5.ownsRow (w.heap.size + 3) 62 3 (.slice A' m c') m (edCells L')) (hg : (W.alloc o).grownBy w5 (Value.slice A1 L.length c1).ownBlock) :
    GI w s A n c x L' gO A' c' (w5.setCell ⟨gO, 1, none⟩ (.slice A' m c')) := by
  have hlo := h.lo
  have hown : ∀ r, (Value.slice A1 L.length c1).ownBlock = some r → w.heap.size + 3 ≤ r := fun r hr => (h.own.lt r hr).1
  have hk : ∀ q, q < W.heap.size → (Value.slice A1 L.length c1).ownBlock ≠ some q → w5.heap[q]? = W.heap[q]? := fun q hq hne => (hg.block q (by simp; omega) (fun e => hne e.symm)).trans (Below.heap_alloc W o q hq)
  have hout : w5.heap[gO]? = some (.cells #[.int .i64 s, .slice A1 L.length c1] 44 (0, 0)) := (hk gO (blk_lt h.out) h.ne).trans h.out
  have hne5 := row_ne ho hout (by decide)
  have hlow : ∀ q, q < w.heap.size + 3 → (w5.setCell ⟨gO, 1, none⟩ (.slice A' m c')).heap[q]? = W.heap[q]? := fun q hq => by
    rw [Below.heap_setCell _ _ _ _ (by simp; omega)]
    have hwW := h.bel.size
    have := blk_lt h.res
    exact hk q (by omega) (fun e => by have := hown q e; omega)
  refine ⟨(hlow _ (by omega)).trans h.box, (hlow _ (by omega)).trans h.boe, (hlow _ (by omega)).trans h.res, ?_, ?_, ?_, h.lo, ?_⟩
  · have := heap_setCell_same w5 gO 1 _ _ (.slice A' m c') hout
    rw [hm]
    exact this
  · rw [hm]
    exact own_setCell_other ho hne5 _
  · rw [hm]
    exact hne5
  · have hb5 : Below w.heap.size w w5 := (h.bel.alloc h.bel.size o).grown hg (by have := h.bel.size; simp; omega) (fun r hr => by have := hown r hr; omega)
    exact hb5.setCell (by show w.heap.size ≤ gO; omega) _

/-- The place that the search finds. -/
def PlaceE (es : List Ed) (x : Ed) (i : Nat) (b : Bool) : Prop := i ≤ es.length ∧ (∀ t (ht : t < es.length), (t < i → edLess es[t] x = true) ∧ (i ≤ t → edLess es[t] x = false)) ∧ (b = true ↔ ∃ h : i < es.length, edCmp es[i] x = 0)
theorem edCmp_zero {a b : Ed} (h : edCmp a b = 0) : a = b := by
  have h1 : edLess a b = false := by rw [← edCmp_neg]; simp [h]
  rcases edLess_tri a b with h2 | h2 | h2
  · rw [h1] at h2; cases h2
  · exact h2
  · exfalso
    obtain ⟨af, al, at_⟩ := a
    obtain ⟨bf, bl, bt⟩ := b
    unfold edCmp at h
    simp only at h
    split at h
    · omega
    · rename_i hn
      simp only [cmpI] at h
      rcases (edLess_iff _ _).1 h2 with h3 | ⟨h3, h4⟩
      · simp only at h3
        rw [if_neg (by omega), if_pos (by omega)] at h
        cases h
      · simp only at h3 h4
        rcases h4 with h4 | ⟨h4, h5⟩
        · exact hn ⟨by omega, h3.symm⟩
        · rw [if_neg (by omega), if_neg (by omega), if_neg (by omega), if_pos (by omega)] at h
          cases h
theorem edCmp_self (a : Ed) : edCmp a a = 0 := by simp [edCmp, cmpI]
theorem PlaceE.found {es : List Ed} {x : Ed} {i : Nat} (h : PlaceE es x i true) : x ∈ es := by
  obtain ⟨h1, h2⟩ := h.2.2.1 rfl
  rw [← edCmp_zero h2]
  exact List.getElem_mem _
theorem PlaceE.put {es : List Ed} {x : Ed} {i : Nat} (ha : Asc es) (h : PlaceE es x i false) : putE es x = es.take i ++ ([x] ++ es.drop i) := by
  have hn : ∀ t (ht : t < es.length), i ≤ t → edLess x es[t] = true := by
    intro t ht hit
    have h1 := (h.2.1 t ht).2 hit
    rcases edLess_tri es[t] x with h2 | h2 | h2
    · rw [h1] at h2; cases h2
    · exfalso
      rcases (by omega : t = i ∨ i < t) with h3 | h3
      · subst h3
        have := h.2.2.2 ⟨ht, by rw [h2]; exact edCmp_self x⟩
        cases this
      · have h4 := (h.2.1 i (by omega)).2 (Nat.le_refl _)
        have h5 := List.pairwise_iff_getElem.1 ha i t (by omega) ht h3
        rw [h2, h4] at h5
        cases h5
    · exact h2
  have h1 : ∀ y ∈ es.take i, edLess y x = true := by
    intro y hy
    obtain ⟨t, ht, rfl⟩ := List.getElem_of_mem hy
    rw [List.length_take] at ht
    rw [List.getElem_take]
    exact (h.2.1 t (by omega)).1 (by omega)
  have h2 : ∀ y ∈ es.drop i, edLess x y = true := by
    intro y hy
    obtain ⟨t, ht, rfl⟩ := List.getElem_of_mem hy
    rw [List.length_drop] at ht
    rw [List.getElem_drop]
    exact hn _ (by omega) (by omega)
  have e1 : es.filter (fun y => edLess y x) = es.take i := by
    have h3 : (es.take i ++ es.drop i).filter (fun y => edLess y x) = es.take i := by
      rw [List.filter_append, List.filter_eq_self.2 h1, List.filter_eq_nil_iff.2 (fun y hy => by rw [edLess_asymm (h2 y hy)]; simp), List.append_nil]
    rwa [List.take_append_drop] at h3
  have e2 : es.filter (fun y => edLess x y) = es.drop i := by
    have h3 : (es.take i ++ es.drop i).filter (fun y => edLess x y) = es.drop i := by
      rw [List.filter_append, List.filter_eq_self.2 h2, List.filter_eq_nil_iff.2 (fun y hy => by rw [edLess_asymm (h1 y hy)]; simp), List.nil_append]
    rwa [List.take_append_drop] at h3
  unfold putE
  rw [e1, e2, List.append_assoc]
theorem edCells_drop : ∀ (es : List Ed) (i : Nat), (edCells es).drop (i * 3) = edCells (es.drop i)
  | es, 0 => by simp
  | [], i + 1 => by simp [edCells]
  | e :: es, i + 1 => by
    rw [show (i + 1) * 3 = i * 3 + 3 by omega]
    have := edCells_drop es i
    simpa [edCells] using this
theorem edCells_take : ∀ (es : List Ed) (i : Nat), (edCells es).take (i * 3) = edCells (es.take i)
  | es, 0 => by simp [edCells]
  | [], i + 1 => by simp [edCells]
  | e :: es, i + 1 => by
    rw [show (i + 1) * 3 = i * 3 + 3 by omega]
    have := edCells_take es i
    simpa [edCells] using this
theorem PlaceE.cells {es : List Ed} {x : Ed} {i : Nat} (ha : Asc es) (h : PlaceE es x i false) : (edCells es).take (i * 3) ++ [.int .i64 x.f, .int .u8 x.l, .int .i64 x.t] ++ (edCells es).drop (i * 3) = edCells (putE es x) := by
  rw [h.put ha, edCells_take, edCells_drop, edCells_append, edCells_append, List.append_assoc]
  rfl
theorem PlaceE.len {es : List Ed} {x : Ed} {i : Nat} (ha : Asc es) (h : PlaceE es x i false) : (putE es x).length = es.length + 1 := by
  rw [h.put ha]
  have := h.1
  simp
  omega

set_option maxRecDepth 100000 in
set_option maxHeartbeats 3200000 in
theorem impl_GraphAdd_any (s : Int) (A : Option Addr) (c : Nat) (es : List Ed) (x : Ed) (w : World) (hx : RdE w A es) (hn : es.length ≤ 1048576) (hl : ∀ e ∈ es, 0 ≤ e.l ∧ e.l ≤ 255) (hxl : 0 ≤ x.l ∧ x.l ≤ 255) :
    Calls Try.prog 66 #[.agg #[.int .i64 s, .slice A es.length c], .agg #[.int .i64 x.f, .int .u8 x.l, .int .i64 x.t]] w (MadeT w s (gaL s es x) (gaB s es x)) := by
  have HX := Lib.hid hx
  have HL := Lib.hid hl
  clear hx hl
  have G1 := Lib.hid (fun w hx => impl_GraphOk_any s A c es w hx (by omega) HL.out)
  have K1 := Lib.hid (fun w hx => copyGraph_any s A c es w hx (by omega))
  have F1 := Lib.hid (fun A c w hx ha => BinarySearchFunc_any A c es x w hx (by omega) HL.out hxl ha)
  have N1 := Lib.hid (fun base n c i g A w hown hin hn hbx hbase hne => InsEdge_any base n c i g A (edCells es) [.int .i64 x.f, .int .u8 x.l, .int .i64 x.t] w hown hin hn hbx rfl (by intro u hu; simp at hu; rcases hu with rfl | rfl | rfl <;> rfl) (oneCell_ed es) hbase hne)
  obtain ⟨q1, hq1⟩ : ∃ q, PP (GOk s es) = q := ⟨_, rfl⟩
  rw [hq1] at G1
  have HQ1 := Lib.hid hq1
  clear hq1
  have hlp : ∀ e ∈ putE es x, 0 ≤ e.l ∧ e.l ≤ 255 := by
    intro e he
    rcases mem_put.1 he with rfl | he
    · exact hxl
    · exact HL.out e he
  have G2 := Lib.hid (fun A c w hx hn => impl_GraphOk_any s A c (putE es x) w hx hn hlp)
  obtain ⟨q2, hq2⟩ : ∃ q, PP (GOk s (putE es x)) = q := ⟨_, rfl⟩
  rw [hq2] at G2
  have HQ2 := Lib.hid hq2
  clear hq2 hlp
  have HGB : Hid (gaB s es x = (q1 && q2)) := by
    show _ = _
    unfold gaB gaP
    have h1 := HQ1.out
    have h2 := HQ2.out
    cases q1
    · rw [PP_no]; rfl
      intro h
      rw [PP_yes h.1] at h1
      cases h1
    · cases q2
      · rw [PP_no]; rfl
        intro h
        rw [PP_yes h.2] at h2
        cases h2
      · rw [PP_yes]; rfl
        exact ⟨PP_true h1, PP_true h2⟩
  have HGL : Hid (gaL s es x = if (q1 && q2) = true then putE es x else es) := by
    show _ = _
    unfold gaL
    rw [HGB.out]
  obtain ⟨xf, xl, xt⟩ := x
  simp only at hxl N1 ⊢
  have p1 := blk_below (below_alloc _ (.cells #[.int .i64 0, .slice none 0 0] 44)) (blk_below (below_alloc _ (.cells #[.int .i64 xf, .int .u8 xl, .int .i64 xt] 62)) (heap_alloc_new w (.cells #[.int .i64 s, .slice A es.length c] 44)))
  have p2 : (((w.alloc (.cells #[.int .i64 s, .slice A es.length c] 44)).alloc (.cells #[.int .i64 xf, .int .u8 xl, .int .i64 xt] 62)).alloc (.cells #[.int .i64 0, .slice none 0 0] 44)).heap[w.heap.size + 1]? = some (.cells #[.int .i64 xf, .int .u8 xl, .int .i64 xt] 62 (0, 0)) := by
    have := blk_below (below_alloc _ (.cells #[.int .i64 0, .slice none 0 0] 44)) (heap_alloc_new (w.alloc (.cells #[.int .i64 s, .slice A es.length c] 44)) (.cells #[.int .i64 xf, .int .u8 xl, .int .i64 xt] 62))
    simpa using this
  have p3 : (((w.alloc (.cells #[.int .i64 s, .slice A es.length c] 44)).alloc (.cells #[.int .i64 xf, .int .u8 xl, .int .i64 xt] 62)).alloc (.cells #[.int .i64 0, .slice none 0 0] 44)).heap[w.heap.size + 2]? = some (.cells #[.int .i64 0, .slice none 0 0] 44 (0, 0)) := by
    have := heap_alloc_new ((w.alloc (.cells #[.int .i64 s, .slice A es.length c] 44)).alloc (.cells #[.int .i64 xf, .int .u8 xl, .int .i64 xt] 62)) (.cells #[.int .i64 0, .slice none 0 0] 44)
    simpa using this
  have B3 : Below w.heap.size w (((w.alloc (.cells #[.int .i64 s, .slice A es.length c] 44)).alloc (.cells #[.int .i64 xf, .int .u8 xl, .int .i64 xt] 62)).alloc (.cells #[.int .i64 0, .slice none 0 0] 44)) := below_step (below_step (below_alloc _ _) (below_alloc _ _)) (below_alloc _ _)
  have hs3 : (((w.alloc (.cells #[.int .i64 s, .slice A es.length c] 44)).alloc (.cells #[.int .i64 xf, .int .u8 xl, .int .i64 xt] 62)).alloc (.cells #[.int .i64 0, .slice none 0 0] 44)).heap.size = w.heap.size + 3 := by simp
  go_enter Try.func66, Try.ntmps66
  go_wp2_with fail
  obtain ⟨W, hW⟩ : ∃ W, ((w.alloc (.cells #[.int .i64 s, .slice A es.length c] 44)).alloc (.cells #[.int .i64 xf, .int .u8 xl, .int .i64 xt] 62)).alloc (.cells #[.int .i64 0, .slice none 0 0] 44) = W := ⟨_, rfl⟩
  rw [hW] at p1 p2 p3 B3 hs3 ⊢
  clear hW
  refine (K1.out W (HX.out.below B3)).mono ?_
  rintro e w1 ⟨A1, c1, rfl, own1, hb1⟩
  have hs1 := hb1.size
  have hI : GI w s A es.length c ⟨xf, xl, xt⟩ es w1.heap.size A1 c1 (w1.alloc (.cells #[.int .i64 s, .slice A1 es.length c1] 44)) :=
    ⟨blk_below (below_alloc _ _) (blk_below hb1 p1), blk_below (below_alloc _ _) (blk_below hb1 p2), blk_below (below_alloc _ _) (blk_below hb1 p3), heap_alloc_new _ _, own_below (own_mono own1 (by omega)) (below_alloc _ _), ne_of_lt own1 (Nat.le_refl _), by omega, below_step (below_step B3 hb1) (below_alloc _ _)⟩
  obtain ⟨g1, hg1⟩ : ∃ g, w1.heap.size = g := ⟨_, rfl⟩
  obtain ⟨W1, hW1⟩ : ∃ W1, w1.alloc (.cells #[.int .i64 s, .slice A1 es.length c1] 44) = W1 := ⟨_, rfl⟩
  rw [hg1, hW1] at hI
  have z0 := blk_cell (o := 0) hI.box rfl
  have z1 := blk_cell (o := 1) hI.box rfl
  clear p1 p2 p3 B3 hs3 own1 hb1 hs1
  go_wp2_with fail
  clear hW1 hg1
  refine (G1.out W1 (HX.out.below hI.bel)).mono ?_
  rintro e w2 ⟨rfl, k2⟩
  have I2 := hI.keep k2
  clear hI z0 z1 k2
  cases q1
  · have z0 := blk_cell (o := 0) I2.out rfl
    have z1 := blk_cell (o := 1) I2.out rfl
    have d0 := blk_cell (o := 0) I2.res rfl
    have d1 := blk_cell (o := 1) I2.res rfl
    have f0 : w2.frozen? ⟨w.heap.size + 2, 0, none⟩ = false := frozen_of_row w2 _ 0 _ _ I2.res
    have f1 : w2.frozen? ⟨w.heap.size + 2, 1, none⟩ = false := frozen_of_row w2 _ 1 _ _ I2.res
    go_wp2
    refine bodyPost_ret (v := .tuple #[.agg #[.int .i64 s, .slice A1 es.length c1], .bool false]) (by simp [results, Try.results66, go_sem, d0, d1]) rfl (MadeT.of (by rw [HGL.out]; rfl) (by rw [HGB.out]; rfl) ⟨A1, c1, rfl, ?_, ?_⟩)
    · exact own_mono (ownsRow_setCell_below (ownsRow_setCell_below I2.own (a := ⟨w.heap.size + 2, 0, none⟩) (by simp) _) (a := ⟨w.heap.size + 2, 1, none⟩) (by simp) _) (by omega)
    · exact (I2.bel.setCell (by show w.heap.size ≤ w.heap.size + 2; omega) _).setCell (by show w.heap.size ≤ w.heap.size + 2; omega) _
  · have hok := PP_true HQ1.out
    have hasc := (gOk_iff.1 hok).2.2.2
    have hlen := (gOk_iff.1 hok).2.1
    have HASC := Lib.hid hasc
    have HOK := Lib.hid hok
    clear hasc hok
    have z1 := blk_cell (o := 1) I2.out rfl
    have e0 := blk_cell (o := 0) I2.boe rfl
    have e1 := blk_cell (o := 1) I2.boe rfl
    have e2 := blk_cell (o := 2) I2.boe rfl
    go_wp2_with fail
    refine (F1.out A1 c1 w2 (Rd.of_own I2.own) HASC.out).mono ?_
    rintro e w3 ⟨i, b, rfl, P1, P2, P3, k3⟩
    have hP : PlaceE es ⟨xf, xl, xt⟩ i b := ⟨P1, P2, P3⟩
    have HP := Lib.hid hP
    have hil : i ≤ es.length := P1
    have I3 := I2.keep k3
    clear P1 P2 P3 hP I2 k3 z1 e0 e1 e2
    cases b
    · have hpl := HP.out.len HASC.out
      have HC := Lib.hid (HP.out.cells HASC.out)
      have z1 := blk_cell (o := 1) I3.out rfl
      have e0 := blk_cell (o := 0) I3.boe rfl
      have e1 := blk_cell (o := 1) I3.boe rfl
      have e2 := blk_cell (o := 2) I3.boe rfl
      have hlt3 : w.heap.size + 3 ≤ w3.heap.size := by have := blk_lt I3.res; omega
      have hlt3' : g1 < w3.heap.size := blk_lt I3.out
      go_wp2_with fail
      obtain ⟨L', hL'⟩ : ∃ L, putE es ⟨xf, xl, xt⟩ = L := ⟨_, rfl⟩
      rw [hL'] at HC hpl HQ2 HGL G2
      clear hL'
      refine (N1.out (w.heap.size + 3) es.length c1 i w3.heap.size A1 (w3.alloc (.cells #[.int .i64 xf, .int .u8 xl, .int .i64 xt] 62)) (I3.own.alloc _) hil (by omega) (heap_alloc_new _ _) (by simp; omega) (ne_of_lt I3.own (Nat.le_refl _))).mono ?_
      rintro e w5 ⟨A2, c2, rfl, o5, g5⟩
      rw [HC.out] at o5
      have I6 := I3.put _ hpl o5 g5
      have hlo := I3.lo
      have q5 : w5.heap[g1]? = some (.cells #[.int .i64 s, .slice A1 es.length c1] 44 (0, 0)) := (g5.block g1 (by simp; omega) (fun e => I3.ne e.symm)).trans ((Below.heap_alloc w3 _ g1 hlt3').trans I3.out)
      have y1 := blk_cell (o := 1) q5 rfl
      have fy : w5.frozen? ⟨g1, 1, none⟩ = false := frozen_of_row w5 _ 1 _ _ q5
      obtain ⟨W6, hW6⟩ : ∃ W6, w5.setCell ⟨g1, 1, none⟩ (.slice A2 (es.length + 1) c2) = W6 := ⟨_, rfl⟩
      rw [hW6] at I6
      have t0 := blk_cell (o := 0) I6.out rfl
      have t1 := blk_cell (o := 1) I6.out rfl
      clear z1 e0 e1 e2 o5 g5 q5 I3
      go_wp2_with fail
      clear hW6 y1 fy
      have C2 := G2.out A2 c2 W6 (Rd.of_own I6.own) (by omega)
      rw [hpl] at C2
      refine C2.mono ?_
      clear C2
      rintro e w7 ⟨rfl, k7⟩
      have I7 := I6.keep k7
      clear I6 k7 t0 t1
      cases q2
      · have z0 := blk_cell (o := 0) I7.box rfl
        have z1 := blk_cell (o := 1) I7.box rfl
        go_wp2_with fail
        refine (K1.out w7 (HX.out.below I7.bel)).mono ?_
        rintro e w8 ⟨A3, c3, rfl, o8, k8⟩
        have I8 := I7.keep k8
        have hs8 := I7.bel.size
        have hl8 := blk_lt I7.res
        have d0 := blk_cell (o := 0) I8.res rfl
        have d1 := blk_cell (o := 1) I8.res rfl
        have f0 : w8.frozen? ⟨w.heap.size + 2, 0, none⟩ = false := frozen_of_row w8 _ 0 _ _ I8.res
        have f1 : w8.frozen? ⟨w.heap.size + 2, 1, none⟩ = false := frozen_of_row w8 _ 1 _ _ I8.res
        clear I7 k8 z0 z1
        go_wp2
        refine bodyPost_ret (v := .tuple #[.agg #[.int .i64 s, .slice A3 es.length c3], .bool false]) (by simp [results, Try.results66, go_sem, d0, d1]) rfl (MadeT.of (by rw [HGL.out]; rfl) (by rw [HGB.out]; rfl) ⟨A3, c3, rfl, ?_, ?_⟩)
        · exact own_mono (ownsRow_setCell_below (ownsRow_setCell_below o8 (a := ⟨w.heap.size + 2, 0, none⟩) (by simp; omega) _) (a := ⟨w.heap.size + 2, 1, none⟩) (by simp; omega) _) hs8
        · exact (I8.bel.setCell (by show w.heap.size ≤ w.heap.size + 2; omega) _).setCell (by show w.heap.size ≤ w.heap.size + 2; omega) _
      · have z0 := blk_cell (o := 0) I7.out rfl
        have z1 := blk_cell (o := 1) I7.out rfl
        have d0 := blk_cell (o := 0) I7.res rfl
        have d1 := blk_cell (o := 1) I7.res rfl
        have f0 : w7.frozen? ⟨w.heap.size + 2, 0, none⟩ = false := frozen_of_row w7 _ 0 _ _ I7.res
        have f1 : w7.frozen? ⟨w.heap.size + 2, 1, none⟩ = false := frozen_of_row w7 _ 1 _ _ I7.res
        go_wp2
        refine bodyPost_ret (v := .tuple #[.agg #[.int .i64 s, .slice A2 L'.length c2], .bool true]) (by simp [results, Try.results66, go_sem, d0, d1, hpl]) rfl (MadeT.of (by rw [HGL.out]; rfl) (by rw [HGB.out]; rfl) ⟨A2, c2, rfl, ?_, ?_⟩)
        · exact own_mono (ownsRow_setCell_below (ownsRow_setCell_below I7.own (a := ⟨w.heap.size + 2, 0, none⟩) (by simp) _) (a := ⟨w.heap.size + 2, 1, none⟩) (by simp) _) (by omega)
        · exact (I7.bel.setCell (by show w.heap.size ≤ w.heap.size + 2; omega) _).setCell (by show w.heap.size ≤ w.heap.size + 2; omega) _
    · have z0 := blk_cell (o := 0) I3.out rfl
      have z1 := blk_cell (o := 1) I3.out rfl
      have d0 := blk_cell (o := 0) I3.res rfl
      have d1 := blk_cell (o := 1) I3.res rfl
      have f0 : w3.frozen? ⟨w.heap.size + 2, 0, none⟩ = false := frozen_of_row w3 _ 0 _ _ I3.res
      have f1 : w3.frozen? ⟨w.heap.size + 2, 1, none⟩ = false := frozen_of_row w3 _ 1 _ _ I3.res
      go_wp2
      have hsame := put_same HASC.out HP.out.found
      have hq2 : q2 = true := by
        rw [← HQ2.out, hsame]
        exact PP_yes HOK.out
      subst hq2
      refine bodyPost_ret (v := .tuple #[.agg #[.int .i64 s, .slice A1 es.length c1], .bool true]) (by simp [results, Try.results66, go_sem, d0, d1]) rfl (MadeT.of (by rw [HGL.out, hsame]; rfl) (by rw [HGB.out]; rfl) ⟨A1, c1, rfl, ?_, ?_⟩)
      · exact own_mono (ownsRow_setCell_below (ownsRow_setCell_below I3.own (a := ⟨w.heap.size + 2, 0, none⟩) (by simp) _) (a := ⟨w.heap.size + 2, 1, none⟩) (by simp) _) (by omega)
      · exact (I3.bel.setCell (by show w.heap.size ≤ w.heap.size + 2; omega) _).setCell (by show w.heap.size ≤ w.heap.size + 2; omega) _
end Go.Proofs.Ytlnphcongijfiaa
