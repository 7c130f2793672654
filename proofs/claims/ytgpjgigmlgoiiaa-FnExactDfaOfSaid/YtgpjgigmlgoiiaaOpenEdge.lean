/- An edge that came in as an argument. No conditions. -/
import Derived.Test.YtgpjgigmlgoiiaaOpen
import Derived.Test.YtgpjgigmlgoiiaaEdge
namespace Go.Proofs.Ytgpjgigmlgoiiaa
open Go.ChangeShapes Go.WideShapes Go.ChangeAt Go.RowKit Go.Joins
theorem Try.cellsEdge : Try.prog.cellsOf 122 = 3 := by kernel_rfl
/-- The parts of an edge are in their kinds' ranges. -/
def Ed.ok (e : Ed) : Prop := (-9223372036854775808 ≤ e.f ∧ e.f ≤ 9223372036854775807) ∧ (0 ≤ e.l ∧ e.l ≤ 255) ∧ (-9223372036854775808 ≤ e.t ∧ e.t ≤ 9223372036854775807)
set_option maxRecDepth 100000 in
theorem open_edge {H : Type} {enc : TypeId × Value → H} {w : World} {base b0 : Nat} {spare : Nat → Bool} {held : Bool} {r : Reach} {v : Value} {d : DataW H} {p : List MemPlace}
    (hv : Value.okWide Try.prog w r b0 122 v) (h : DataW.Trod enc Try.prog w base spare held 122 v d p) : ∃ e : Ed, v = e.val ∧ e.ok := by
  obtain ⟨v0, v1, v2, y0, y1, y2, n, rfl, _, _, h0, h1, h2⟩ := open_agg3 Try.underlying122 (by kernel_rfl) Try.cellsEdge hv h
  obtain ⟨a, e0, _, w0⟩ := DataW.trod_int Try.underlying3 h0
  obtain ⟨b, e1, _, w1⟩ := DataW.trod_int Try.underlying5 h1
  obtain ⟨c, e2, _, w2⟩ := DataW.trod_int Try.underlying3 h2
  simp at e0 e1 e2
  subst e0 e1 e2
  exact ⟨⟨a, b, c⟩, rfl, bounds_i64 w0, bounds_u8 w1, bounds_i64 w2⟩
end Go.Proofs.Ytgpjgigmlgoiiaa
