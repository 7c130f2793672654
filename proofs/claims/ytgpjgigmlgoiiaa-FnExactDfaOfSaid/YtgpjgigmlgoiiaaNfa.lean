/- Automata: copied, compared, sized, marked, held; opened. No conditions but the lengths. -/
import Derived.Test.YtgpjgigmlgoiiaaArc
import Derived.Test.YtgpjgigmlgoiiaaBoolS
import Derived.Test.YtgpjgigmlgoiiaaTouch
namespace Go.Proofs.Ytgpjgigmlgoiiaa
open Go.ChangeShapes Go.WideShapes Go.ChangeAt Go.RowKit Go.Joins Go.Deep

theorem own_setCell_other {w : World} {b : Nat} {e : TypeId} {sz : Nat} {v : Value} {m : Nat} {ys : List Value} (ho : w.ownsRow b e sz v m ys) {a : Addr} (hne : v.ownBlock ≠ some a.block) (u : Value) : (w.setCell a u).ownsRow b e sz v m ys := by
  refine ho.kept (row := some a.block) ⟨rfl, rfl, rfl, by simp [World.setCell], fun i _ hi => Below.heap_setCell _ _ _ _ (fun h => hi (by rw [h]))⟩ ?_
  exact .inr hne
/-- Rows of two types are not one block. -/
theorem rows_ne {w : World} {b b' : Nat} {e e' : TypeId} {sz sz' : Nat} {v v' : Value} {m m' : Nat} {ys ys' : List Value} (h : w.ownsRow b e sz v m ys) (h' : w.ownsRow b' e' sz' v' m' ys') (ht : e' ≠ e) : v.ownBlock = none ∨ v.ownBlock ≠ v'.ownBlock := by
  rcases h'.2 with ⟨rfl, _⟩ | ⟨g, cap, cur, rfl, _, hg, _⟩
  · cases hv : v.ownBlock
    · exact .inl rfl
    · exact .inr (by simp [Value.ownBlock])
  · exact .inr (row_ne h hg ht)

/-- What a call that makes an automaton leaves. -/
def MadeN (w : World) (s : Int) (es : List Ed) (bs : List Bool) (e : Ending) (w' : World) : Prop :=
  ∃ A c B d, e = .returned (.agg #[.int .i64 s, .slice A es.length c, .slice B bs.length d]) ∧ w'.ownsRow w.heap.size 76 3 (.slice A es.length c) es.length (edCells es) ∧
    w'.ownsRow w.heap.size 4 1 (.slice B bs.length d) bs.length (bs.map Value.bool) ∧ Below w.heap.size w w'

set_option maxRecDepth 100000 in
set_option maxHeartbeats 1600000 in
theorem toNfa_any (s : Int) (A B : Option Addr) (c d : Nat) (es : List Ed) (bs : List Bool) (w : World) (hx : RdE w A es) (hy : RdB w B bs.length bs) (hn : es.length ≤ 4294967296) (hm : bs.length ≤ 4294967296) :
    Calls Try.prog 11 #[.agg #[.int .i64 s, .slice A es.length c, .slice B bs.length d]] w (MadeN w s es bs) := by
  have p1 := blk_below (below_alloc _ (.cells #[.int .i64 s, .slice none 0 0, .slice none 0 0] 29)) (blk_below (below_alloc _ (.cells #[.int .i64 0, .slice none 0 0, .slice none 0 0] 29)) (heap_alloc_new w (.cells #[.int .i64 s, .slice A es.length c, .slice B bs.length d] 25)))
  have p2 : (((w.alloc (.cells #[.int .i64 s, .slice A es.length c, .slice B bs.length d] 25)).alloc (.cells #[.int .i64 0, .slice none 0 0, .slice none 0 0] 29)).alloc (.cells #[.int .i64 s, .slice none 0 0, .slice none 0 0] 29)).heap[w.heap.size + 1]? = some (.cells #[.int .i64 0, .slice none 0 0, .slice none 0 0] 29 (0, 0)) := by
    have := blk_below (below_alloc _ (.cells #[.int .i64 s, .slice none 0 0, .slice none 0 0] 29)) (heap_alloc_new (w.alloc (.cells #[.int .i64 s, .slice A es.length c, .slice B bs.length d] 25)) (.cells #[.int .i64 0, .slice none 0 0, .slice none 0 0] 29))
    simpa using this
  have p3 : (((w.alloc (.cells #[.int .i64 s, .slice A es.length c, .slice B bs.length d] 25)).alloc (.cells #[.int .i64 0, .slice none 0 0, .slice none 0 0] 29)).alloc (.cells #[.int .i64 s, .slice none 0 0, .slice none 0 0] 29)).heap[w.heap.size + 2]? = some (.cells #[.int .i64 s, .slice none 0 0, .slice none 0 0] 29 (0, 0)) := by
    have := heap_alloc_new ((w.alloc (.cells #[.int .i64 s, .slice A es.length c, .slice B bs.length d] 25)).alloc (.cells #[.int .i64 0, .slice none 0 0, .slice none 0 0] 29)) (.cells #[.int .i64 s, .slice none 0 0, .slice none 0 0] 29)
    simpa using this
  have B3 : Below w.heap.size w (((w.alloc (.cells #[.int .i64 s, .slice A es.length c, .slice B bs.length d] 25)).alloc (.cells #[.int .i64 0, .slice none 0 0, .slice none 0 0] 29)).alloc (.cells #[.int .i64 s, .slice none 0 0, .slice none 0 0] 29)) := below_step (below_step (below_alloc _ _) (below_alloc _ _)) (below_alloc _ _)
  have hs3 : (((w.alloc (.cells #[.int .i64 s, .slice A es.length c, .slice B bs.length d] 25)).alloc (.cells #[.int .i64 0, .slice none 0 0, .slice none 0 0] 29)).alloc (.cells #[.int .i64 s, .slice none 0 0, .slice none 0 0] 29)).heap.size = w.heap.size + 3 := by simp
  have HX := Lib.hid hx
  have HY := Lib.hid hy
  clear hx hy
  go_enter Try.func11, Try.ntmps11
  go_wp2_with fail
  obtain ⟨W, hW⟩ : ∃ W, ((w.alloc (.cells #[.int .i64 s, .slice A es.length c, .slice B bs.length d] 25)).alloc (.cells #[.int .i64 0, .slice none 0 0, .slice none 0 0] 29)).alloc (.cells #[.int .i64 s, .slice none 0 0, .slice none 0 0] 29) = W := ⟨_, rfl⟩
  rw [hW] at p1 p2 p3 B3 hs3 ⊢
  clear hW
  refine (toArcS_any A c es W (HX.out.below B3) hn).mono ?_
  rintro e w1 ⟨A1, c1, rfl, o1, k1⟩
  have q1 := blk_below k1 p1
  have q2 := blk_below k1 p2
  have q3 := blk_below k1 p3
  have B4 := below_step B3 k1
  have hs1 := k1.size
  have f1 : w1.frozen? ⟨w.heap.size + 2, 1, none⟩ = false := frozen_of_row w1 _ 1 _ _ q3
  have e1 := blk_cell (o := 1) q3 rfl
  have o1' := own_mono (ownsRow_setCell_below o1 (a := ⟨w.heap.size + 2, 1, none⟩) (by simp; omega) (.slice A1 es.length c1)) (show w.heap.size ≤ W.heap.size by omega)
  have q3' := heap_setCell_same w1 (w.heap.size + 2) 1 _ _ (.slice A1 es.length c1) q3
  have q1' := (Below.heap_setCell w1 ⟨w.heap.size + 2, 1, none⟩ (.slice A1 es.length c1) w.heap.size (by simp)).trans q1
  have q2' := (Below.heap_setCell w1 ⟨w.heap.size + 2, 1, none⟩ (.slice A1 es.length c1) (w.heap.size + 1) (by simp)).trans q2
  have B5 := B4.setCell (p := ⟨w.heap.size + 2, 1, none⟩) (by simp) (.slice A1 es.length c1)
  obtain ⟨W1, hW1⟩ : ∃ W, w1.setCell ⟨w.heap.size + 2, 1, none⟩ (.slice A1 es.length c1) = W := ⟨_, rfl⟩
  have hsz : W1.heap.size = w1.heap.size := by rw [← hW1]; simp [World.setCell]
  rw [hW1] at o1' q1' q2' q3' B5
  have b2 : W1.cell? ⟨w.heap.size, 2, none⟩ = some (.slice B bs.length d) := blk_cell (o := 2) q1' rfl
  clear p1 p2 p3 B3 o1 k1 q1 q2 q3 B4
  go_wp2_with fail
  clear hW1 f1 e1
  refine (toBoolS_any B bs.length d bs W1 (HY.out.below B5) hm).mono ?_
  rintro e w2 ⟨A2, c2, rfl, o2, k2⟩
  have q2 := blk_below k2 q2'
  have q3 := blk_below k2 q3'
  have o1 := own_below o1' k2
  have B6 := below_step B5 k2
  have hs2 := k2.size
  have f1 : w2.frozen? ⟨w.heap.size + 2, 2, none⟩ = false := frozen_of_row w2 _ 2 _ _ q3
  have e1 := blk_cell (o := 2) q3 rfl
  have n1 := row_ne o1 q3 (by decide)
  have n2 := row_ne o2 q3 (by decide)
  have n3 := row_ne o1 q2 (by decide)
  have n4 := row_ne o2 q2 (by decide)
  have q3' := heap_setCell_same w2 (w.heap.size + 2) 2 _ _ (.slice A2 bs.length c2) q3
  have q2' := (Below.heap_setCell w2 ⟨w.heap.size + 2, 2, none⟩ (.slice A2 bs.length c2) (w.heap.size + 1) (by simp)).trans q2
  have o1' := own_setCell_other o1 (a := ⟨w.heap.size + 2, 2, none⟩) n1 (.slice A2 bs.length c2)
  have o2' := own_setCell_other o2 (a := ⟨w.heap.size + 2, 2, none⟩) n2 (.slice A2 bs.length c2)
  have B7 := B6.setCell (p := ⟨w.heap.size + 2, 2, none⟩) (by simp) (.slice A2 bs.length c2)
  obtain ⟨W2, hW2⟩ : ∃ W, w2.setCell ⟨w.heap.size + 2, 2, none⟩ (.slice A2 bs.length c2) = W := ⟨_, rfl⟩
  rw [hW2] at o1' o2' q2' q3' B7
  have t0 : W2.cell? ⟨w.heap.size + 2, 0, none⟩ = some (.int .i64 s) := blk_cell (o := 0) q3' rfl
  have t1 : W2.cell? ⟨w.heap.size + 2, 1, none⟩ = some (.slice A1 es.length c1) := blk_cell (o := 1) q3' rfl
  have t2 : W2.cell? ⟨w.heap.size + 2, 2, none⟩ = some (.slice A2 bs.length c2) := blk_cell (o := 2) q3' rfl
  have d0 := blk_cell (o := 0) q2' rfl
  have d1 := blk_cell (o := 1) q2' rfl
  have d2 := blk_cell (o := 2) q2' rfl
  have g0 : W2.frozen? ⟨w.heap.size + 1, 0, none⟩ = false := frozen_of_row W2 _ 0 _ _ q2'
  have g1 : W2.frozen? ⟨w.heap.size + 1, 1, none⟩ = false := frozen_of_row W2 _ 1 _ _ q2'
  have g2 : W2.frozen? ⟨w.heap.size + 1, 2, none⟩ = false := frozen_of_row W2 _ 2 _ _ q2'
  have HO1 := Lib.hid o1'
  have HO2 := Lib.hid o2'
  have HB := Lib.hid B7
  have hws : w.heap.size ≤ W1.heap.size := by omega
  clear q2 q3 o1 o2 k2 B5 B6 q1' q2' q3' o1' o2' B7 b2
  go_wp2
  refine bodyPost_ret (v := .agg #[.int .i64 s, .slice A1 es.length c1, .slice A2 bs.length c2]) (by simp [results, Try.results11, go_sem, d0, d1, d2]) rfl ⟨A1, c1, A2, c2, rfl, ?_, ?_, ?_⟩
  · exact own_setCell_other (own_setCell_other (own_setCell_other HO1.out (a := ⟨w.heap.size + 1, 0, none⟩) n3 _) (a := ⟨w.heap.size + 1, 1, none⟩) n3 _) (a := ⟨w.heap.size + 1, 2, none⟩) n3 _
  · exact own_mono (own_setCell_other (own_setCell_other (own_setCell_other HO2.out (a := ⟨w.heap.size + 1, 0, none⟩) n4 _) (a := ⟨w.heap.size + 1, 1, none⟩) n4 _) (a := ⟨w.heap.size + 1, 2, none⟩) n4 _) hws
  · exact ((HB.out.setCell (p := ⟨w.heap.size + 1, 0, none⟩) (by simp) _).setCell (p := ⟨w.heap.size + 1, 1, none⟩) (by simp) _).setCell (p := ⟨w.heap.size + 1, 2, none⟩) (by simp) _

/-- Size: how much is left; -1: too much. -/
def szN (n m : Nat) (left : Int) : Int := if (n : Int) + m ≤ left then left - n - m else -1
set_option maxRecDepth 100000 in
theorem szNfa_any (s : Int) (A B : Option Addr) (n c m d : Nat) (left : Int) (w : World) (hl : 0 ≤ left ∧ left ≤ 4611686018427387904) (hn : n ≤ 9223372036854775807) (hm : m ≤ 9223372036854775807) :
    Calls Try.prog 9 #[.agg #[.int .i64 s, .slice A n c, .slice B m d], .int .i64 left] w fun e w' => e = .returned (.int .i64 (szN n m left)) ∧ Below w.heap.size w w' := by
  have C := Lib.hid (fun w => szArcS_any A n c left w hl hn)
  obtain ⟨h0, h1⟩ := hl
  by_cases h : (n : Int) ≤ left
  · rw [if_pos h] at C
    have D := Lib.hid (fun w => szBoolS_any B m d (left - n) w (by omega) hm)
    by_cases h2 : (m : Int) ≤ left - n
    · rw [if_pos h2] at D
      rw [show szN n m left = left - n - m by unfold szN; rw [if_pos (by omega)]]
      go_enter Try.func9, Try.ntmps9
      go_wp2_with (first
        | (go_at_call 40; refine (C.out _).mono ?_; rintro e w1 ⟨rfl, rfl⟩)
        | (go_at_call 41; refine (D.out _).mono ?_; rintro e w1 ⟨rfl, rfl⟩))
      go_ret
      exact ⟨rfl, (Below.refl _ _).alloc (Nat.le_refl _) _⟩
    · rw [if_neg h2] at D
      rw [show szN n m left = -1 by unfold szN; rw [if_neg (by omega)]]
      go_enter Try.func9, Try.ntmps9
      go_wp2_with (first
        | (go_at_call 40; refine (C.out _).mono ?_; rintro e w1 ⟨rfl, rfl⟩)
        | (go_at_call 41; refine (D.out _).mono ?_; rintro e w1 ⟨rfl, rfl⟩))
      go_ret
      exact ⟨rfl, (Below.refl _ _).alloc (Nat.le_refl _) _⟩
  · rw [if_neg h] at C
    rw [show szN n m left = -1 by unfold szN; rw [if_neg (by omega)]]
    go_enter Try.func9, Try.ntmps9
    go_wp2_with (go_at_call 40; refine (C.out _).mono ?_; rintro e w1 ⟨rfl, rfl⟩)
    go_ret
    exact ⟨rfl, (Below.refl _ _).alloc (Nat.le_refl _) _⟩

set_option maxRecDepth 100000 in
set_option maxHeartbeats 1600000 in
theorem eqNfa_any (s t : Int) (A B A' B' : Option Addr) (c d c' d' : Nat) (es fs : List Ed) (bs ds : List Bool) (w : World) (hx : RdE w A es) (hx' : RdE w A' fs) (hy : RdB w B bs.length bs) (hy' : RdB w B' ds.length ds)
    (hn : es.length ≤ 4294967296) (hn' : fs.length ≤ 4294967296) (hm : bs.length ≤ 4294967296) :
    Calls Try.prog 13 #[.agg #[.int .i64 s, .slice A es.length c, .slice B bs.length d], .agg #[.int .i64 t, .slice A' fs.length c', .slice B' ds.length d']] w fun e w' => e = .returned (.bool (decide (s = t) && eqE es fs && eqLB bs ds)) ∧ Below w.heap.size w w' := by
  have k0 := below_step (below_alloc w (.cells #[.int .i64 s, .slice A es.length c, .slice B bs.length d] 29)) (below_alloc (w.alloc (.cells #[.int .i64 s, .slice A es.length c, .slice B bs.length d] 29)) (.cells #[.int .i64 t, .slice A' fs.length c', .slice B' ds.length d'] 29))
  have p1 := blk_below (below_alloc (w.alloc (.cells #[.int .i64 s, .slice A es.length c, .slice B bs.length d] 29)) (.cells #[.int .i64 t, .slice A' fs.length c', .slice B' ds.length d'] 29)) (heap_alloc_new w (.cells #[.int .i64 s, .slice A es.length c, .slice B bs.length d] 29))
  have p2 : ((w.alloc (.cells #[.int .i64 s, .slice A es.length c, .slice B bs.length d] 29)).alloc (.cells #[.int .i64 t, .slice A' fs.length c', .slice B' ds.length d'] 29)).heap[w.heap.size + 1]? = some (.cells #[.int .i64 t, .slice A' fs.length c', .slice B' ds.length d'] 29 (0, 0)) := by
    have := heap_alloc_new (w.alloc (.cells #[.int .i64 s, .slice A es.length c, .slice B bs.length d] 29)) (.cells #[.int .i64 t, .slice A' fs.length c', .slice B' ds.length d'] 29)
    simpa using this
  have C := Lib.hid (fun w (h : RdE w A es) h' => eqArcS_any A A' c c' es fs w h h' hn hn')
  have D := Lib.hid (fun w (h : RdB w B bs.length bs) h' => eqBoolS_any B B' bs.length ds.length d d' bs ds w h h' hm)
  obtain ⟨q1, hq1⟩ : ∃ q, eqE es fs = q := ⟨_, rfl⟩
  obtain ⟨q2, hq2⟩ : ∃ q, eqLB bs ds = q := ⟨_, rfl⟩
  rw [hq1] at C ⊢
  rw [hq2] at D ⊢
  clear hq1 hq2
  have HX := Lib.hid hx
  have HX' := Lib.hid hx'
  have HY := Lib.hid hy
  have HY' := Lib.hid hy'
  have P1 := Lib.hid p1
  have P2 := Lib.hid p2
  have K0 := Lib.hid k0
  clear hx hx' hy hy' p1 p2 k0
  by_cases hst : s = t
  · subst hst
    rw [show (decide (s = s) && q1 && q2) = (q1 && q2) by simp]
    have n0 : (s != s) = false := by simp
    cases q1
    · go_enter Try.func13, Try.ntmps13
      go_wp2_with fail
      refine (C.out _ (HX.out.below K0.out) (HX'.out.below K0.out)).mono ?_
      rintro e w1 ⟨rfl, k1⟩
      go_wp2
      go_ret
      exact ⟨rfl, below_step K0.out k1⟩
    · cases q2
      all_goals
        go_enter Try.func13, Try.ntmps13
        go_wp2_with fail
        refine (C.out _ (HX.out.below K0.out) (HX'.out.below K0.out)).mono ?_
        rintro e w1 ⟨rfl, k1⟩
        have b2 := blk_cell (o := 2) (blk_below k1 P1.out) rfl
        have c2 := blk_cell (o := 2) (blk_below k1 P2.out) rfl
        go_wp2_with fail
        refine (D.out _ (HY.out.below (below_step K0.out k1)) (HY'.out.below (below_step K0.out k1))).mono ?_
        rintro e w2 ⟨rfl, k2⟩
        go_wp2
        go_ret
        exact ⟨rfl, below_step (below_step K0.out k1) k2⟩
  · rw [show (decide (s = t) && q1 && q2) = false by simp [hst]]
    have b1 : (s != t) = true := by rw [bne_iff_ne]; exact hst
    go_enter Try.func13, Try.ntmps13
    go_wp2
    go_ret
    exact ⟨rfl, K0.out⟩

/-- An automaton as it came in. -/
def NfK (w : World) (v : Value) (s : Int) (es : List Ed) (bs : List Bool) : Prop := (-9223372036854775808 ≤ s ∧ s ≤ 9223372036854775807) ∧ ∃ A c B d, v = .agg #[.int .i64 s, .slice A es.length c, .slice B bs.length d] ∧ RdE w A es ∧ RdB w B bs.length bs ∧ es.length ≤ c ∧ c ≤ maxLen ∧ bs.length ≤ d ∧ d ≤ maxLen ∧ ∀ e ∈ es, e.ok
theorem Try.cellsNfa : Try.prog.cellsOf 25 = 3 := by kernel_rfl
set_option maxRecDepth 100000 in
theorem open_nfa {H : Type} {enc : TypeId × Value → H} {w : World} {base : Nat} {spare : Nat → Bool} {held : Bool} {b0 : Nat} {r : Reach} {v : Value} {d : DataW H} {p : List MemPlace}
    (hv : Value.okWide Try.prog w r b0 25 v) (h : DataW.Trod enc Try.prog w base spare held 25 v d p) : ∃ s es bs, NfK w v s es bs := by
  obtain ⟨v0, v1, v2, y0, y1, y2, n, rfl, _, _, h0, h1, h2⟩ := open_agg3 Try.underlying25 (by kernel_rfl) Try.cellsNfa hv h
  obtain ⟨s, e0, _, w0⟩ := DataW.trod_int Try.underlying3 h0
  simp at e0
  subst e0
  obtain ⟨A, c, es, rfl, hr, hl, hm, hok⟩ := open_arcs h1
  obtain ⟨B, d, bs, rfl, hrb, hlb, hmb⟩ := open_boolS h2
  exact ⟨s, es, bs, bounds_i64 w0, A, c, B, d, rfl, hr, hrb, hl, hm, hlb, hmb, hok⟩
end Go.Proofs.Ytgpjgigmlgoiiaa
