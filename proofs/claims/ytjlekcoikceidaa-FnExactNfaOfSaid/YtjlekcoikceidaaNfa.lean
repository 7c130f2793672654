/- Automata: copied, compared, sized, marked, held; opened. No conditions but the lengths. -/
import Derived.Test.YtjlekcoikceidaaArc
import Derived.Test.YtjlekcoikceidaaBoolS
import Derived.Test.YtjlekcoikceidaaTouch
namespace Go.Proofs.Ytjlekcoikceidaa
open Go.ChangeShapes Go.WideShapes Go.ChangeAt Go.RowKit Go.Joins Go.Deep

theorem own_setCell_other {w : World} {b : Nat} {e : TypeId} {sz : Nat} {v : Value} {m : Nat} {ys : List Value} (ho : w.ownsRow b e sz v m ys) {a : Addr} (hne : v.ownBlock ≠ some a.block) (u : Value) : (w.setCell a u).ownsRow b e sz v m ys := by
  refine ho.kept (row := some a.block) ⟨rfl, rfl, rfl, by simp [World.setCell], fun i _ hi => Below.heap_setCell _ _ _ _ (fun h => hi (by rw [h]))⟩ ?_
  exact .inr hne
/-- Rows of two types are not one block. -/
theorem rows_ne {w : World} {b b' : Nat} {e e' : TypeId} {sz sz' : Nat} {v v' : Value} {m m' : Nat} {ys ys' : List Value} (h : w.ownsRow b e sz v m ys) (h' : w.ownsRow b' e' sz' v' m' ys') (ht : e' ≠ e) : v.ownBlock = none ∨ v.ownBlock ≠ v'.ownBlock := by
  rcases h'.2 with ⟨rfl, _⟩ | ⟨g, cap, cur, rfl, _, hg, _⟩
  · cases hv : v.ownBlock
    · exact .inl rfl
    · exact .inr (by simp [Value.ownBlock])
  · exact .inr (row_ne h hg ht)

/-- What a call that makes an automaton leaves. -/
def MadeN (w : World) (s : Int) (es : List Ed) (bs : List Bool) (e : Ending) (w' : World) : Prop :=
  ∃ A c B d, e = .returned (.agg #[.int .i64 s, .slice A es.length c, .slice B bs.length d]) ∧ w'.ownsRow w.heap.size 64 3 (.slice A es.length c) es.length (edCells es) ∧
    w'.ownsRow w.heap.size 4 1 (.slice B bs.length d) bs.length (bs.map Value.bool) ∧ Below w.heap.size w w'

/-- Size: how much is left; -1: too much. -/
def szN (n m : Nat) (left : Int) : Int := if (n : Int) + m ≤ left then left - n - m else -1
set_option maxRecDepth 100000 in
set_option maxHeartbeats 1600000 in
theorem eqNfa_any (s t : Int) (A B A' B' : Option Addr) (c d c' d' : Nat) (es fs : List Ed) (bs ds : List Bool) (w : World) (hx : RdE w A es) (hx' : RdE w A' fs) (hy : RdB w B bs.length bs) (hy' : RdB w B' ds.length ds)
    (hn : es.length ≤ 4294967296) (hn' : fs.length ≤ 4294967296) (hm : bs.length ≤ 4294967296) :
    Calls Try.prog 8 #[.agg #[.int .i64 s, .slice A es.length c, .slice B bs.length d], .agg #[.int .i64 t, .slice A' fs.length c', .slice B' ds.length d']] w fun e w' => e = .returned (.bool (decide (s = t) && eqE es fs && eqLB bs ds)) ∧ Below w.heap.size w w' := by
  have k0 := below_step (below_alloc w (.cells #[.int .i64 s, .slice A es.length c, .slice B bs.length d] 29)) (below_alloc (w.alloc (.cells #[.int .i64 s, .slice A es.length c, .slice B bs.length d] 29)) (.cells #[.int .i64 t, .slice A' fs.length c', .slice B' ds.length d'] 29))
  have p1 := blk_below (below_alloc (w.alloc (.cells #[.int .i64 s, .slice A es.length c, .slice B bs.length d] 29)) (.cells #[.int .i64 t, .slice A' fs.length c', .slice B' ds.length d'] 29)) (heap_alloc_new w (.cells #[.int .i64 s, .slice A es.length c, .slice B bs.length d] 29))
  have p2 : ((w.alloc (.cells #[.int .i64 s, .slice A es.length c, .slice B bs.length d] 29)).alloc (.cells #[.int .i64 t, .slice A' fs.length c', .slice B' ds.length d'] 29)).heap[w.heap.size + 1]? = some (.cells #[.int .i64 t, .slice A' fs.length c', .slice B' ds.length d'] 29 (0, 0)) := by
    have := heap_alloc_new (w.alloc (.cells #[.int .i64 s, .slice A es.length c, .slice B bs.length d] 29)) (.cells #[.int .i64 t, .slice A' fs.length c', .slice B' ds.length d'] 29)
    simpa using this
  have C := Lib.hid (fun w (h : RdE w A es) h' => eqArcS_any A A' c c' es fs w h h' hn hn')
  have D := Lib.hid (fun w (h : RdB w B bs.length bs) h' => eqBoolS_any B B' bs.length ds.length d d' bs ds w h h' hm)
  obtain ⟨q1, hq1⟩ : ∃ q, eqE es fs = q := ⟨_, rfl⟩
  obtain ⟨q2, hq2⟩ : ∃ q, eqLB bs ds = q := ⟨_, rfl⟩
  rw [hq1] at C ⊢
  rw [hq2] at D ⊢
  clear hq1 hq2
  have HX := Lib.hid hx
  have HX' := Lib.hid hx'
  have HY := Lib.hid hy
  have HY' := Lib.hid hy'
  have P1 := Lib.hid p1
  have P2 := Lib.hid p2
  have K0 := Lib.hid k0
  clear hx hx' hy hy' p1 p2 k0
  by_cases hst : s = t
  · subst hst
    rw [show (decide (s = s) && q1 && q2) = (q1 && q2) by simp]
    have n0 : (s != s) = false := by simp
    cases q1
    · go_enter Try.func8, Try.ntmps8
      go_wp2_with fail
      refine (C.out _ (HX.out.below K0.out) (HX'.out.below K0.out)).mono ?_
      rintro e w1 ⟨rfl, k1⟩
      go_wp2
      go_ret
      exact ⟨rfl, below_step K0.out k1⟩
    · cases q2
      all_goals
        go_enter Try.func8, Try.ntmps8
        go_wp2_with fail
        refine (C.out _ (HX.out.below K0.out) (HX'.out.below K0.out)).mono ?_
        rintro e w1 ⟨rfl, k1⟩
        have b2 := blk_cell (o := 2) (blk_below k1 P1.out) rfl
        have c2 := blk_cell (o := 2) (blk_below k1 P2.out) rfl
        go_wp2_with fail
        refine (D.out _ (HY.out.below (below_step K0.out k1)) (HY'.out.below (below_step K0.out k1))).mono ?_
        rintro e w2 ⟨rfl, k2⟩
        go_wp2
        go_ret
        exact ⟨rfl, below_step (below_step K0.out k1) k2⟩
  · rw [show (decide (s = t) && q1 && q2) = false by simp [hst]]
    have b1 : (s != t) = true := by rw [bne_iff_ne]; exact hst
    go_enter Try.func8, Try.ntmps8
    go_wp2
    go_ret
    exact ⟨rfl, K0.out⟩

/-- An automaton as it came in. -/
def NfK (w : World) (v : Value) (s : Int) (es : List Ed) (bs : List Bool) : Prop := (-9223372036854775808 ≤ s ∧ s ≤ 9223372036854775807) ∧ ∃ A c B d, v = .agg #[.int .i64 s, .slice A es.length c, .slice B bs.length d] ∧ RdE w A es ∧ RdB w B bs.length bs ∧ es.length ≤ c ∧ c ≤ maxLen ∧ bs.length ≤ d ∧ d ≤ maxLen ∧ ∀ e ∈ es, e.ok
end Go.Proofs.Ytjlekcoikceidaa
