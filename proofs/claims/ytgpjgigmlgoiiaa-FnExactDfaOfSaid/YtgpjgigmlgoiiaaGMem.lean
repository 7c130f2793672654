/- Slices of edges: what they read as. No conditions. -/
import Derived.Test.YtgpjgigmlgoiiaaToEdge
import Derived.Test.YtgpjgigmlgoiiaaIntS
namespace Go.Proofs.Ytgpjgigmlgoiiaa
open Go.RowKit

instance : Inhabited Ed := ⟨⟨0, 0, 0⟩⟩
def edCells : List Ed → List Value
  | [] => []
  | e :: r => .int .i64 e.f :: .int .u8 e.l :: .int .i64 e.t :: edCells r
theorem edCells_len : ∀ es : List Ed, (edCells es).length = es.length * 3
  | [] => rfl
  | e :: r => by simp only [edCells, List.length_cons, edCells_len r]; omega
theorem edCells_append : ∀ es fs : List Ed, edCells (es ++ fs) = edCells es ++ edCells fs
  | [], _ => rfl
  | e :: r, fs => by simp only [List.cons_append, edCells, edCells_append r fs]
theorem edCells_at : ∀ (es : List Ed) (k : Nat) (h : k < es.length), (edCells es)[k * 3]? = some (.int .i64 es[k].f) ∧ (edCells es)[k * 3 + 1]? = some (.int .u8 es[k].l) ∧ (edCells es)[k * 3 + 2]? = some (.int .i64 es[k].t)
  | e :: r, 0, _ => ⟨rfl, rfl, rfl⟩
  | e :: r, k + 1, h => by
    have ih := edCells_at r k (by simpa using h)
    rw [show (k + 1) * 3 = k * 3 + 1 + 1 + 1 by omega]
    simp only [edCells, List.getElem?_cons_succ, List.getElem_cons_succ]
    exact ih
theorem oneCell_ed : ∀ es : List Ed, ∀ u ∈ edCells es, u.oneCell' = true
  | [], u, h => by simp [edCells] at h
  | e :: r, u, h => by
    simp only [edCells, List.mem_cons] at h
    rcases h with rfl | rfl | rfl | h
    · rfl
    · rfl
    · rfl
    · exact oneCell_ed r u h

/-- A slice of edges at A reads as es. -/
def RdE (w : World) (A : Option Addr) (es : List Ed) : Prop := Rd w 3 A es.length (edCells es)
theorem RdE.below {w w' : World} {A : Option Addr} {es : List Ed} (h : RdE w A es) (hb : Below w.heap.size w w') : RdE w' A es := Rd.below h hb
theorem RdE.alloc {w : World} {A : Option Addr} {es : List Ed} (h : RdE w A es) (o : Obj) : RdE (w.alloc o) A es := Rd.alloc h o
theorem RdE.at_ {w : World} {A : Option Addr} {es : List Ed} {k : Nat} (h : RdE w A es) (hk : k < es.length) :
    ∃ b o, A = some ⟨b, o, none⟩ ∧ w.cell? ⟨b, o + k * 3, none⟩ = some (.int .i64 es[k].f) ∧ w.cell? ⟨b, o + k * 3 + 1, none⟩ = some (.int .u8 es[k].l) ∧ w.cell? ⟨b, o + k * 3 + 2, none⟩ = some (.int .i64 es[k].t) := by
  obtain ⟨ad, e, hc⟩ := h.2 (by omega)
  obtain ⟨h0, h1, h2⟩ := edCells_at es k hk
  have c0 := hc _ _ h0
  have c1 := hc _ _ h1
  have c2 := hc _ _ h2
  have cz := hc 0 _ (edCells_at es 0 (by omega)).1
  obtain ⟨b, off, spot⟩ := ad
  have hspot : spot = none := by simpa [Addr.add] using World.cell?_spot cz
  subst hspot
  have hp : ∀ j, (⟨b, off, none⟩ : Addr).add j = ⟨b, off + j, none⟩ := by intro j; unfold Addr.add; split <;> simp_all
  rw [hp] at c0 c1 c2
  exact ⟨b, off, e, c0, by rw [Nat.add_assoc]; exact c1, by rw [Nat.add_assoc]; exact c2⟩

/-- The three cells of element k of a row of the call's own. -/
theorem own3 {w : World} {base : Nat} {e : TypeId} {g n cap : Nat} {ys : List Value} (h : w.ownsRow base e 3 (.slice (some ⟨g, 0, none⟩) n cap) n ys) {k : Nat} (hk : k < n) :
    ∃ u0 u1 u2, w.cell? ⟨g, k * 3, none⟩ = some u0 ∧ w.cell? ⟨g, k * 3 + 1, none⟩ = some u1 ∧ w.cell? ⟨g, k * 3 + 2, none⟩ = some u2 ∧ w.frozen? ⟨g, k * 3, none⟩ = false ∧ w.frozen? ⟨g, k * 3 + 1, none⟩ = false ∧ w.frozen? ⟨g, k * 3 + 2, none⟩ = false := by
  have hl := h.1
  have c : ∀ j, j < n * 3 → w.cell? ⟨g, j, none⟩ = some (ys.getD j undef) := fun j hj => by
    rw [h.cellAt j hj]
    simp [List.getD, List.getElem?_eq_getElem (show j < ys.length by omega)]
  exact ⟨_, _, _, c _ (by omega), c _ (by omega), c _ (by omega), h.frozenAt _, h.frozenAt _, h.frozenAt _⟩
theorem own3_stored {w : World} {base : Nat} {e : TypeId} {g n cap : Nat} {ys : List Value} (h : w.ownsRow base e 3 (.slice (some ⟨g, 0, none⟩) n cap) n ys) (k : Nat) (a b c : Value) :
    (((w.setCell ⟨g, k * 3, none⟩ a).setCell ⟨g, k * 3 + 1, none⟩ b).setCell ⟨g, k * 3 + 2, none⟩ c).ownsRow base e 3 (.slice (some ⟨g, 0, none⟩) n cap) n (((ys.set (k * 3) a).set (k * 3 + 1) b).set (k * 3 + 2) c) ∧
      w.grownBy (((w.setCell ⟨g, k * 3, none⟩ a).setCell ⟨g, k * 3 + 1, none⟩ b).setCell ⟨g, k * 3 + 2, none⟩ c) (some g) := by
  have h1 := h.stored (k * 3) a
  have h2 := h1.1.stored (k * 3 + 1) b
  have h3 := h2.1.stored (k * 3 + 2) c
  exact ⟨h3.1, (h1.2.trans h2.2).trans h3.2⟩
theorem take_set3 (ys : List Value) (k : Nat) (a b c : Value) (h : k * 3 + 2 < ys.length) :
    (((ys.set (k * 3) a).set (k * 3 + 1) b).set (k * 3 + 2) c).take ((k + 1) * 3) = ys.take (k * 3) ++ [a, b, c] := by
  rw [show (k + 1) * 3 = k * 3 + 1 + 1 + 1 by omega]
  rw [List.take_succ_eq_append_getElem (by simp; omega), List.take_succ_eq_append_getElem (by simp; omega), List.take_succ_eq_append_getElem (by simp; omega)]
  simp [List.take_set_of_le]
theorem edCells_next {es : List Ed} {k : Nat} (h : k < es.length) : edCells (es.take (k + 1)) = edCells (es.take k) ++ [.int .i64 es[k].f, .int .u8 es[k].l, .int .i64 es[k].t] := by
  rw [List.take_succ_eq_append_getElem h, edCells_append]
  rfl

theorem Try.infoEdge : (Try.prog.info? 119).map (fun i => (i.zero, i.size, i.bytes)) = some (some (.agg #[.int .i64 0, .int .u8 0, .int .i64 0]), 3, 24) := by kernel_rfl
/-- What a call that makes a slice of edges leaves. -/
def MadeE (w : World) (es : List Ed) (e : Ending) (w' : World) : Prop := ∃ A c, e = .returned (.slice A es.length c) ∧ w'.ownsRow w.heap.size 119 3 (.slice A es.length c) es.length (edCells es) ∧ Below w.heap.size w w'

set_option maxRecDepth 100000 in
set_option maxHeartbeats 1600000 in
theorem toEdgeS_any (A : Option Addr) (c : Nat) (es : List Ed) (w : World) (hx : RdE w A es) (hn : es.length ≤ 4294967296) :
    Calls Try.prog 62 #[.slice A es.length c] w (MadeE w es) := by
  obtain ⟨i0, hi, hz0, hz1, hz2⟩ := info_parts Try.infoEdge
  have HX := Lib.hid hx
  clear hx
  go_enter Try.func62, Try.ntmps62
  go_wp2_with (first
    | (at_make
       refine wpList_make_full _ rfl _ _ 43 rfl w.heap.size 119 i0 _ 3 Try.underlying43 hi hz0 hz1 .i64 .i64 (es.length : Int) (es.length : Int) es.length rfl rfl rfl rfl (by rw [hz2]; omega) (by unfold maxLen; omega) (Nat.le_refl _) ?_
       intro w0 hown0 hg0
       have hb0 := (Below.refl w.heap.size w).grown hg0 (Nat.le_refl _) (fun g hg => by cases hg)))
  go_loopw [4] (fun i wr => ∃ (k : Nat) (ys : List Value), k ≤ es.length ∧ i = .int .i64 k ∧ ys.length ≤ es.length * 3 ∧ es.length * 3 ≤ ys.length ∧ Hid (ys.take (k * 3) = edCells (es.take k)) ∧ wr.ownsRow w.heap.size 119 3 (.slice (some ⟨w.heap.size, 0, none⟩) es.length es.length) es.length ys ∧ Below w.heap.size w wr) (fun i _ => es.length - (intOf i).toNat)
  case atStart =>
    have := hown0.1
    exact ⟨0, _, Nat.zero_le _, rfl, by omega, by omega, rfl, hown0, hb0⟩
  case round =>
    obtain ⟨k, ys, hk, rfl, hy1, hy2, HT, hown, hb⟩ := hrel
    clear hown0 hg0 hb0
    by_cases hlt : k < es.length
    · obtain ⟨b, o, rfl, hc0, hc1, hc2⟩ := (RdE.below HX.out hb).at_ hlt
      obtain ⟨ed, hed⟩ : ∃ ed, es[k] = ed := ⟨_, rfl⟩
      rw [hed] at hc0 hc1 hc2
      have HED := Lib.hid hed
      clear hed
      have T := Lib.hid (fun w => toEdge_any ed w)
      obtain ⟨ef, el, et⟩ := ed
      unfold Ed.val at T
      simp only at hc0 hc1 hc2
      go_wp2_with fail
      refine (T.out _).mono ?_
      rintro e w1 ⟨rfl, hb1⟩
      have hown1 := own_below hown hb1
      obtain ⟨u0, u1, u2, d0, d1, d2, f0, f1, f2⟩ := own3 hown1 hlt
      have hst := own3_stored hown1 k (.int .i64 ef) (.int .u8 el) (.int .i64 et)
      have HS := Lib.hid hst
      have HB := Lib.hid (below_step hb hb1)
      clear hst hown hown1 hb hb1 hc0 hc1 hc2 T
      go_wp2
      go_roundw
      case rel =>
        refine ⟨k + 1, _, by omega, by go_num, ?_, ?_, ?_, HS.out.1, HB.out.grown HS.out.2 HB.out.size (fun g hg => by cases hg; exact Nat.le_refl _)⟩
        · simp; omega
        · simp; omega
        · show _ = _
          rw [take_set3 ys k _ _ _ (by omega), HT.out, edCells_next hlt, HED.out]
      case measure => simp [intOf]; omega
    · obtain rfl : k = es.length := by omega
      have e1 : ys = edCells es := by
        have := HT.out
        rw [List.take_of_length_le (by omega), List.take_of_length_le (Nat.le_refl _)] at this
        exact this
      subst e1
      go_wp2
      go_ret
      exact ⟨_, _, rfl, hown, hb⟩
end Go.Proofs.Ytgpjgigmlgoiiaa
