/- What an argument of a law is, opened from its reading: slices of ints and bytes, edges. No conditions. An edge that came in as an argument. No conditions. A graph that came in as an argument. No conditions. -/
import Derived.Test.YtjlekcoikceidaaMem
import Derived.Test.YtjlekcoikceidaaMEdge
import Derived.Test.YtjlekcoikceidaaGMem
import Derived.ProofKit
import Derived.OpenShut
import Derived.Lib.SmallJoins
import Derived.Deep.Slices
namespace Go.Proofs.Ytjlekcoikceidaa
open Go.ChangeShapes Go.WideShapes Go.ChangeAt Go.RowKit Go.Joins

/-- A slice whose elements are one integer cell each, of kind k: the value, and what it reads as. -/
def SlK (w : World) (k : IntKind) (v : Value) (zs : List Int) : Prop :=
  ∃ A n c, v = .slice A n c ∧ Rd w 1 A n (zs.map (Value.int k)) ∧ n ≤ c ∧ c ≤ maxLen ∧ (∀ z ∈ zs, (Lit.int k z).wf = true)

section
variable {H : Type} {enc : TypeId × Value → H} {P : Program} {w : World} {base : Nat} {spare : Nat → Bool} {held : Bool}
theorem open_slk {r : Reach} {b0 : Nat} {t e : TypeId} {k : IntKind} {v : Value} {d : DataW H} {p : List MemPlace} (ht : P.underlying t = some (.slice e)) (he : P.underlying e = some (.int k)) (hc : P.cellsOf e = 1)
    (hv : Value.okWide P w r b0 t v) (h : DataW.Trod enc P w base spare held t v d p) : ∃ zs, SlK w k v zs := by
  obtain ⟨a0, len, cap, rfl⟩ := okWide_slice ht hv
  obtain ⟨fuel, hf⟩ := h
  rcases open_ints ht he hc hf with ⟨hcs, _⟩ | ⟨a, len', cap', zs, hcs, _, hl, hm, hz, _, hcell, hwz⟩
  · simp [Value.cells] at hcs
    obtain ⟨rfl, rfl, rfl⟩ := hcs
    exact ⟨[], none, 0, 0, rfl, Rd.none_, Nat.le_refl _, by unfold maxLen; omega, by simp⟩
  · simp [Value.cells] at hcs
    obtain ⟨rfl, rfl, rfl⟩ := hcs
    have hzl : len ≤ zs.length := by rw [hz]; split <;> omega
    refine ⟨zs.take len, some a, len, cap, rfl, ⟨by simp; omega, fun _ => ⟨a, rfl, fun j u hu => ?_⟩⟩, hl, hm, fun z hz => hwz z (List.mem_of_mem_take hz)⟩
    have hj : j < (zs.take len).length := by
      rcases Nat.lt_or_ge j (zs.take len).length with h | h
      · exact h
      · rw [List.getElem?_eq_none (by simpa using h)] at hu; cases hu
    have hj2 : j < len := by rw [List.length_take] at hj; omega
    rw [hcell j (by omega), ← hu]
    simp [List.getD, hj2, List.getElem?_eq_getElem (show j < zs.length by omega)]
end
end Go.Proofs.Ytjlekcoikceidaa
namespace Go.Proofs.Ytjlekcoikceidaa
open Go.ChangeShapes Go.WideShapes Go.ChangeAt Go.RowKit Go.Joins
/-- The parts of an edge are in their kinds' ranges. -/
def Ed.ok (e : Ed) : Prop := (-9223372036854775808 ≤ e.f ∧ e.f ≤ 9223372036854775807) ∧ (0 ≤ e.l ∧ e.l ≤ 255) ∧ (-9223372036854775808 ≤ e.t ∧ e.t ≤ 9223372036854775807)
end Go.Proofs.Ytjlekcoikceidaa
namespace Go.Proofs.Ytjlekcoikceidaa
open Go.ChangeShapes Go.WideShapes Go.ChangeAt Go.RowKit Go.Joins Go.Deep
theorem list_of {α : Type} {P : Nat → α → Prop} (n : Nat) (h : ∀ i, i < n → ∃ e, P i e) : ∃ es : List α, es.length = n ∧ ∀ i (hi : i < es.length), P i es[i] := by
  induction n with
  | zero => exact ⟨[], rfl, fun i hi => absurd hi (by simp)⟩
  | succ n ih =>
    obtain ⟨es, hl, hp⟩ := ih (fun i hi => h i (by omega))
    obtain ⟨e, he⟩ := h n (by omega)
    refine ⟨es ++ [e], by simp [hl], fun i hi => ?_⟩
    by_cases hin : i < es.length
    · rw [List.getElem_append_left hin]; exact hp i hin
    · have : i = n := by simp at hi; omega
      subst this
      rw [List.getElem_append_right (by omega)]
      simpa [hl] using he
theorem Try.cellsInt : Try.prog.cellsOf 3 = 1 := by kernel_rfl
theorem Try.cellsU8 : Try.prog.cellsOf 5 = 1 := by kernel_rfl
section
variable {H : Type} {enc : TypeId × Value → H} {w : World} {base : Nat} {spare : Nat → Bool} {held : Bool}
theorem RdE.of_cells {a : Addr} {es : List Ed} (h : ∀ i (hi : i < es.length), w.cell? (a.add (i * 3)) = some (.int .i64 es[i].f) ∧ w.cell? (a.add (i * 3 + 1)) = some (.int .u8 es[i].l) ∧ w.cell? (a.add (i * 3 + 2)) = some (.int .i64 es[i].t)) : RdE w (some a) es := by
  refine ⟨edCells_len es, fun _ => ⟨a, rfl, fun j u hu => ?_⟩⟩
  have hj : j < (edCells es).length := (List.getElem?_eq_some_iff.1 hu).1
  rw [edCells_len] at hj
  have hk : j / 3 < es.length := by omega
  obtain ⟨c0, c1, c2⟩ := h _ hk
  obtain ⟨g0, g1, g2⟩ := edCells_at es _ hk
  rcases (by omega : j = j / 3 * 3 ∨ j = j / 3 * 3 + 1 ∨ j = j / 3 * 3 + 2) with e | e | e
  · rw [← e] at c0 g0; rw [c0, ← g0, hu]
  · rw [← e] at c1 g1; rw [c1, ← g1, hu]
  · rw [← e] at c2 g2; rw [c2, ← g2, hu]
/-- A graph as it came in. -/
def GrK (w : World) (v : Value) (s : Int) (es : List Ed) : Prop := (-9223372036854775808 ≤ s ∧ s ≤ 9223372036854775807) ∧ ∃ A c, v = .agg #[.int .i64 s, .slice A es.length c] ∧ RdE w A es ∧ es.length ≤ c ∧ c ≤ maxLen ∧ ∀ e ∈ es, e.ok
end
end Go.Proofs.Ytjlekcoikceidaa
