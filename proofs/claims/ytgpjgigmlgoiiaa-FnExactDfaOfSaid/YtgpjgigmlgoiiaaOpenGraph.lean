/- A graph that came in as an argument. No conditions. -/
import Derived.Test.YtgpjgigmlgoiiaaOpenEdge
import Derived.Test.YtgpjgigmlgoiiaaGMem
import Derived.Deep.Slices
namespace Go.Proofs.Ytgpjgigmlgoiiaa
open Go.ChangeShapes Go.WideShapes Go.ChangeAt Go.RowKit Go.Joins Go.Deep
theorem list_of {α : Type} {P : Nat → α → Prop} (n : Nat) (h : ∀ i, i < n → ∃ e, P i e) : ∃ es : List α, es.length = n ∧ ∀ i (hi : i < es.length), P i es[i] := by
  induction n with
  | zero => exact ⟨[], rfl, fun i hi => absurd hi (by simp)⟩
  | succ n ih =>
    obtain ⟨es, hl, hp⟩ := ih (fun i hi => h i (by omega))
    obtain ⟨e, he⟩ := h n (by omega)
    refine ⟨es ++ [e], by simp [hl], fun i hi => ?_⟩
    by_cases hin : i < es.length
    · rw [List.getElem_append_left hin]; exact hp i hin
    · have : i = n := by simp at hi; omega
      subst this
      rw [List.getElem_append_right (by omega)]
      simpa [hl] using he
theorem Try.cellsInt : Try.prog.cellsOf 3 = 1 := by kernel_rfl
theorem Try.cellsU8 : Try.prog.cellsOf 5 = 1 := by kernel_rfl
section
variable {H : Type} {enc : TypeId × Value → H} {w : World} {base : Nat} {spare : Nat → Bool} {held : Bool}
set_option maxRecDepth 100000 in
theorem edge_cells {n : Nat} {cs : List Value} {x : DataW H × List MemPlace} (h : DataW.trod enc Try.prog w base spare held n 122 cs = some x) (hl : cs.length = 3) :
    ∃ e : Ed, cs = [.int .i64 e.f, .int .u8 e.l, .int .i64 e.t] ∧ e.ok := by
  obtain ⟨xs, m, _, _, _, hxl, hf⟩ := DataW.trod_struct Try.underlying122 h
  match cs, hl with
  | [c0, c1, c2], _ =>
    match xs, hxl with
    | [y0, y1, y2], _ =>
      have h0 : DataW.trod enc Try.prog w base spare held m 3 (List.take (Try.prog.cellsOf 3) [c0, c1, c2]) = some y0 := hf 0 _ rfl
      have h1 : DataW.trod enc Try.prog w base spare held m 5 (List.take (Try.prog.cellsOf 5) [c1, c2]) = some y1 := hf 1 _ rfl
      have h2 : DataW.trod enc Try.prog w base spare held m 3 (List.take (Try.prog.cellsOf 3) [c2]) = some y2 := hf 2 _ rfl
      rw [Try.cellsInt] at h0 h2
      rw [Try.cellsU8] at h1
      simp only [List.take] at h0 h1 h2
      obtain ⟨a, e0, _, w0⟩ := DataW.trod_int Try.underlying3 h0
      obtain ⟨b, e1, _, w1⟩ := DataW.trod_int Try.underlying5 h1
      obtain ⟨c, e2, _, w2⟩ := DataW.trod_int Try.underlying3 h2
      simp at e0 e1 e2
      subst e0 e1 e2
      exact ⟨⟨a, b, c⟩, rfl, bounds_i64 w0, bounds_u8 w1, bounds_i64 w2⟩
theorem RdE.of_cells {a : Addr} {es : List Ed} (h : ∀ i (hi : i < es.length), w.cell? (a.add (i * 3)) = some (.int .i64 es[i].f) ∧ w.cell? (a.add (i * 3 + 1)) = some (.int .u8 es[i].l) ∧ w.cell? (a.add (i * 3 + 2)) = some (.int .i64 es[i].t)) : RdE w (some a) es := by
  refine ⟨edCells_len es, fun _ => ⟨a, rfl, fun j u hu => ?_⟩⟩
  have hj : j < (edCells es).length := (List.getElem?_eq_some_iff.1 hu).1
  rw [edCells_len] at hj
  have hk : j / 3 < es.length := by omega
  obtain ⟨c0, c1, c2⟩ := h _ hk
  obtain ⟨g0, g1, g2⟩ := edCells_at es _ hk
  rcases (by omega : j = j / 3 * 3 ∨ j = j / 3 * 3 + 1 ∨ j = j / 3 * 3 + 2) with e | e | e
  · rw [← e] at c0 g0; rw [c0, ← g0, hu]
  · rw [← e] at c1 g1; rw [c1, ← g1, hu]
  · rw [← e] at c2 g2; rw [c2, ← g2, hu]
theorem Try.cellsEdge2 : Try.prog.cellsOf 122 = 3 := by kernel_rfl
theorem open_edges {fuel : Nat} {v : Value} {x : DataW H × List MemPlace} (h : DataW.trod enc Try.prog w base spare held fuel 37 [v] = some x) :
    ∃ (A : Option Addr) (c : Nat) (es : List Ed), v = .slice A es.length c ∧ RdE w A es ∧ es.length ≤ c ∧ c ≤ maxLen ∧ ∀ e ∈ es, e.ok := by
  rcases open_slice Try.underlying37 h with ⟨hcs, _⟩ | ⟨a, len, cap, m, n, D, Pl, hcs, _, hl, hm, hmm, _, hi⟩
  · simp at hcs
    subst hcs
    exact ⟨none, 0, [], rfl, ⟨rfl, fun h => absurd h (by simp)⟩, Nat.le_refl _, by unfold maxLen; omega, by simp⟩
  · simp at hcs
    subst hcs
    have hlm : len ≤ m := by rw [hmm]; split <;> omega
    obtain ⟨es, hes, hp⟩ := list_of (α := Ed) (P := fun i e => (w.cell? (a.add (i * 3)) = some (.int .i64 e.f) ∧ w.cell? (a.add (i * 3 + 1)) = some (.int .u8 e.l) ∧ w.cell? (a.add (i * 3 + 2)) = some (.int .i64 e.t)) ∧ e.ok) len (fun i hil => by
      obtain ⟨cs', hc, ht⟩ := hi i (by omega)
      rw [Try.cellsEdge2] at hc
      obtain ⟨_, hcl, hat⟩ := World.cells?_some hc
      obtain ⟨e, rfl, hok⟩ := edge_cells ht hcl
      have h0 := hat 0 (by omega)
      have h1 := hat 1 (by omega)
      have h2 := hat 2 (by omega)
      rw [add_of_add] at h0 h1 h2
      exact ⟨e, ⟨h0, h1, h2⟩, hok⟩)
    subst hes
    refine ⟨some a, cap, es, rfl, RdE.of_cells fun i hi => (hp i hi).1, hl, hm, fun e he => ?_⟩
    obtain ⟨i, hi, rfl⟩ := List.getElem_of_mem he
    exact (hp i hi).2
/-- A graph as it came in. -/
def GrK (w : World) (v : Value) (s : Int) (es : List Ed) : Prop := (-9223372036854775808 ≤ s ∧ s ≤ 9223372036854775807) ∧ ∃ A c, v = .agg #[.int .i64 s, .slice A es.length c] ∧ RdE w A es ∧ es.length ≤ c ∧ c ≤ maxLen ∧ ∀ e ∈ es, e.ok
theorem Try.cellsGraph : Try.prog.cellsOf 39 = 2 := by kernel_rfl
set_option maxRecDepth 100000 in
theorem open_graph {b0 : Nat} {r : Reach} {v : Value} {d : DataW H} {p : List MemPlace}
    (hv : Value.okWide Try.prog w r b0 39 v) (h : DataW.Trod enc Try.prog w base spare held 39 v d p) : ∃ s es, GrK w v s es := by
  obtain ⟨v0, v1, y0, y1, n, rfl, _, _, h0, h1⟩ := open_agg2 Try.underlying39 (by kernel_rfl) Try.cellsGraph hv h
  obtain ⟨s, e0, _, w0⟩ := DataW.trod_int Try.underlying3 h0
  simp at e0
  subst e0
  obtain ⟨A, c, es, rfl, hr, hl, hm, hok⟩ := open_edges h1
  exact ⟨s, es, bounds_i64 w0, A, c, rfl, hr, hl, hm, hok⟩
end
end Go.Proofs.Ytgpjgigmlgoiiaa
