/- What is drawn for the laws on owners: a graph, two numbers. No conditions but the length of the code. -/
import Derived.Test.YtlnphcongijfiaaDrawG
import Derived.Test.YtlnphcongijfiaaIntS
namespace Go.Proofs.Ytlnphcongijfiaa
open Go.RowKit

theorem Code0.keep {w w' : World} {A : Option Addr} {n : Nat} {zs : List Int} (h : Code0 w A n zs) (hb : Below w.heap.size w w') : Code0 w' A n zs := ⟨Rd.below h.rd hb, h.le, h.bd⟩
/-- A drawn graph that is right. -/
def DrawnGr (w : World) (e : Ending) (w' : World) : Prop :=
  ∃ (s : Int) (A : Option Addr) (c : Nat) (es : List Ed), e = .returned (.agg #[.int .i64 s, .slice A es.length c]) ∧ GOk s es ∧ 1 ≤ es.length ∧ es.length ≤ 10 ∧ w'.ownsRow w.heap.size 62 3 (.slice A es.length c) es.length (edCells es) ∧ Below w.heap.size w w'

set_option maxRecDepth 100000 in
set_option maxHeartbeats 1600000 in
theorem DrawGraph_any (A : Option Addr) (n c : Nat) (zs : List Int) (w : World) (hc : Code0 w A n zs) :
    Calls Try.prog 29 #[.slice A n c] w (DrawnGr w) := by
  have k0 := below_alloc w (.cells #[.int .i64 0, .slice none 0 0] 44)
  have q0 := heap_alloc_new w (.cells #[.int .i64 0, .slice none 0 0] 44)
  have C := Lib.hid (l01New_any A n c zs _ (hc.keep k0))
  have Q0 := Lib.hid q0
  have K0 := Lib.hid k0
  clear hc q0 k0
  go_enter Try.func29, Try.ntmps29
  go_wp2_with fail
  refine C.out.mono ?_
  rintro e w1 ⟨rfl, hc1, hb1⟩
  have Q1 := Lib.hid (blk_below hb1 Q0.out)
  have hw1 := hb1.size
  clear C
  go_wp2_with fail
  refine (l04Graph_any _ _ w1 (by simpa using hc1) hb1).mono ?_
  rintro e w2 ⟨s, A2, c2, es, rfl, hok, h1, h10, hc2, own2, hg2⟩
  have q2 := (hg2.block _ (blk_lt Q1.out) (fun e => by injection e with e; simp at e)).trans Q1.out
  have d0 := blk_cell (o := 0) q2 rfl
  have d1 := blk_cell (o := 1) q2 rfl
  have f0 : w2.frozen? ⟨w.heap.size, 0, none⟩ = false := frozen_of_row w2 _ 0 _ _ q2
  have f1 : w2.frozen? ⟨w.heap.size, 1, none⟩ = false := frozen_of_row w2 _ 1 _ _ q2
  have hwl := blk_lt Q1.out
  have HOK := Lib.hid hok
  have B2 : Hid (Below w.heap.size w w2) := below_step K0.out (below_only hb1 hg2 (by simp))
  clear hc1 hc2 hb1 hok hg2 q2
  go_wp2
  refine bodyPost_ret (v := .agg #[.int .i64 s, .slice A2 es.length c2]) (by simp [results, Try.results29, go_sem, d0, d1]) rfl ⟨s, A2, c2, es, rfl, HOK.out, h1, h10, ?_, ?_⟩
  · exact own_mono (ownsRow_setCell_below (ownsRow_setCell_below own2 (a := ⟨w.heap.size, 0, none⟩) (by simp; omega) _) (a := ⟨w.heap.size, 1, none⟩) (by simp; omega) _) (by omega)
  · exact (B2.out.setCell (Nat.le_refl _) _).setCell (Nat.le_refl _) _

/-- What the drawing of a bool leaves. -/
def DrawnB (w0 : World) (g : Nat) (w : World) (e : Ending) (w' : World) : Prop := ∃ b : Bool, e = .returned (.bool b) ∧ CurAt w0 g w' ∧ w.grownBy w' (some g)
/-- What the drawing of a number leaves. -/
def DrawnN (w0 : World) (g : Nat) (w : World) (e : Ending) (w' : World) : Prop := ∃ x : Int, e = .returned (.int .i64 x) ∧ CurAt w0 g w' ∧ w.grownBy w' (some g)
/-- Two drawn numbers. -/
def DrawnTwo (w : World) (e : Ending) (w' : World) : Prop := ∃ a b : Int, e = .returned (.tuple #[.int .i64 a, .int .i64 b]) ∧ Below w.heap.size w w'
end Go.Proofs.Ytlnphcongijfiaa
