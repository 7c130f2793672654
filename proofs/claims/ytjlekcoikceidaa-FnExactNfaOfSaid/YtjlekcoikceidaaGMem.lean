/- Slices of edges: what they read as. No conditions. -/
import Derived.Test.YtjlekcoikceidaaMEdge
import Derived.Test.YtjlekcoikceidaaIntS
namespace Go.Proofs.Ytjlekcoikceidaa
open Go.RowKit

instance : Inhabited Ed := ⟨⟨0, 0, 0⟩⟩
def edCells : List Ed → List Value
  | [] => []
  | e :: r => .int .i64 e.f :: .int .u8 e.l :: .int .i64 e.t :: edCells r
theorem edCells_len : ∀ es : List Ed, (edCells es).length = es.length * 3
  | [] => rfl
  | e :: r => by simp only [edCells, List.length_cons, edCells_len r]; omega
theorem edCells_append : ∀ es fs : List Ed, edCells (es ++ fs) = edCells es ++ edCells fs
  | [], _ => rfl
  | e :: r, fs => by simp only [List.cons_append, edCells, edCells_append r fs]
theorem edCells_at : ∀ (es : List Ed) (k : Nat) (h : k < es.length), (edCells es)[k * 3]? = some (.int .i64 es[k].f) ∧ (edCells es)[k * 3 + 1]? = some (.int .u8 es[k].l) ∧ (edCells es)[k * 3 + 2]? = some (.int .i64 es[k].t)
  | e :: r, 0, _ => ⟨rfl, rfl, rfl⟩
  | e :: r, k + 1, h => by
    have ih := edCells_at r k (by simpa using h)
    rw [show (k + 1) * 3 = k * 3 + 1 + 1 + 1 by omega]
    simp only [edCells, List.getElem?_cons_succ, List.getElem_cons_succ]
    exact ih
theorem oneCell_ed : ∀ es : List Ed, ∀ u ∈ edCells es, u.oneCell' = true
  | [], u, h => by simp [edCells] at h
  | e :: r, u, h => by
    simp only [edCells, List.mem_cons] at h
    rcases h with rfl | rfl | rfl | h
    · rfl
    · rfl
    · rfl
    · exact oneCell_ed r u h

/-- A slice of edges at A reads as es. -/
def RdE (w : World) (A : Option Addr) (es : List Ed) : Prop := Rd w 3 A es.length (edCells es)
theorem RdE.below {w w' : World} {A : Option Addr} {es : List Ed} (h : RdE w A es) (hb : Below w.heap.size w w') : RdE w' A es := Rd.below h hb
theorem RdE.alloc {w : World} {A : Option Addr} {es : List Ed} (h : RdE w A es) (o : Obj) : RdE (w.alloc o) A es := Rd.alloc h o
theorem RdE.at_ {w : World} {A : Option Addr} {es : List Ed} {k : Nat} (h : RdE w A es) (hk : k < es.length) :
    ∃ b o, A = some ⟨b, o, none⟩ ∧ w.cell? ⟨b, o + k * 3, none⟩ = some (.int .i64 es[k].f) ∧ w.cell? ⟨b, o + k * 3 + 1, none⟩ = some (.int .u8 es[k].l) ∧ w.cell? ⟨b, o + k * 3 + 2, none⟩ = some (.int .i64 es[k].t) := by
  obtain ⟨ad, e, hc⟩ := h.2 (by omega)
  obtain ⟨h0, h1, h2⟩ := edCells_at es k hk
  have c0 := hc _ _ h0
  have c1 := hc _ _ h1
  have c2 := hc _ _ h2
  have cz := hc 0 _ (edCells_at es 0 (by omega)).1
  obtain ⟨b, off, spot⟩ := ad
  have hspot : spot = none := by simpa [Addr.add] using World.cell?_spot cz
  subst hspot
  have hp : ∀ j, (⟨b, off, none⟩ : Addr).add j = ⟨b, off + j, none⟩ := by intro j; unfold Addr.add; split <;> simp_all
  rw [hp] at c0 c1 c2
  exact ⟨b, off, e, c0, by rw [Nat.add_assoc]; exact c1, by rw [Nat.add_assoc]; exact c2⟩

/-- The three cells of element k of a row of the call's own. -/
theorem own3 {w : World} {base : Nat} {e : TypeId} {g n cap : Nat} {ys : List Value} (h : w.ownsRow base e 3 (.slice (some ⟨g, 0, none⟩) n cap) n ys) {k : Nat} (hk : k < n) :
    ∃ u0 u1 u2, w.cell? ⟨g, k * 3, none⟩ = some u0 ∧ w.cell? ⟨g, k * 3 + 1, none⟩ = some u1 ∧ w.cell? ⟨g, k * 3 + 2, none⟩ = some u2 ∧ w.frozen? ⟨g, k * 3, none⟩ = false ∧ w.frozen? ⟨g, k * 3 + 1, none⟩ = false ∧ w.frozen? ⟨g, k * 3 + 2, none⟩ = false := by
  have hl := h.1
  have c : ∀ j, j < n * 3 → w.cell? ⟨g, j, none⟩ = some (ys.getD j undef) := fun j hj => by
    rw [h.cellAt j hj]
    simp [List.getD, List.getElem?_eq_getElem (show j < ys.length by omega)]
  exact ⟨_, _, _, c _ (by omega), c _ (by omega), c _ (by omega), h.frozenAt _, h.frozenAt _, h.frozenAt _⟩
theorem own3_stored {w : World} {base : Nat} {e : TypeId} {g n cap : Nat} {ys : List Value} (h : w.ownsRow base e 3 (.slice (some ⟨g, 0, none⟩) n cap) n ys) (k : Nat) (a b c : Value) :
    (((w.setCell ⟨g, k * 3, none⟩ a).setCell ⟨g, k * 3 + 1, none⟩ b).setCell ⟨g, k * 3 + 2, none⟩ c).ownsRow base e 3 (.slice (some ⟨g, 0, none⟩) n cap) n (((ys.set (k * 3) a).set (k * 3 + 1) b).set (k * 3 + 2) c) ∧
      w.grownBy (((w.setCell ⟨g, k * 3, none⟩ a).setCell ⟨g, k * 3 + 1, none⟩ b).setCell ⟨g, k * 3 + 2, none⟩ c) (some g) := by
  have h1 := h.stored (k * 3) a
  have h2 := h1.1.stored (k * 3 + 1) b
  have h3 := h2.1.stored (k * 3 + 2) c
  exact ⟨h3.1, (h1.2.trans h2.2).trans h3.2⟩
theorem take_set3 (ys : List Value) (k : Nat) (a b c : Value) (h : k * 3 + 2 < ys.length) :
    (((ys.set (k * 3) a).set (k * 3 + 1) b).set (k * 3 + 2) c).take ((k + 1) * 3) = ys.take (k * 3) ++ [a, b, c] := by
  rw [show (k + 1) * 3 = k * 3 + 1 + 1 + 1 by omega]
  rw [List.take_succ_eq_append_getElem (by simp; omega), List.take_succ_eq_append_getElem (by simp; omega), List.take_succ_eq_append_getElem (by simp; omega)]
  simp [List.take_set_of_le]
theorem edCells_next {es : List Ed} {k : Nat} (h : k < es.length) : edCells (es.take (k + 1)) = edCells (es.take k) ++ [.int .i64 es[k].f, .int .u8 es[k].l, .int .i64 es[k].t] := by
  rw [List.take_succ_eq_append_getElem h, edCells_append]
  rfl

end Go.Proofs.Ytjlekcoikceidaa
