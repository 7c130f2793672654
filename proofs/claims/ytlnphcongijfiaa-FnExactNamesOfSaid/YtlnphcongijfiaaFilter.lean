/- Filters: structs of strings and ints, and slices of them: copied, compared, sized, marked; opened. No conditions but the lengths. Printed by flat.py. -/
import Derived.Test.YtlnphcongijfiaaTxtS
import Derived.Test.YtlnphcongijfiaaPP
import Derived.Deep.RegionHeld3
namespace Go.Proofs.Ytlnphcongijfiaa
open Go.ChangeShapes Go.WideShapes Go.ChangeAt Go.RowKit Go.Joins Go.Deep

structure Fl where
  l : ByteArray
  o : Int
  r : ByteArray
  n : Int
instance : Inhabited Fl := ⟨⟨noT, 0, noT, 0⟩⟩
def Fl.val (e : Fl) : Value := .agg #[.string e.l, .int .i64 e.o, .string e.r, .int .i64 e.n]
def Fl.cells (e : Fl) : List Value := [.string e.l, .int .i64 e.o, .string e.r, .int .i64 e.n]
def Fl.ok (e : Fl) : Prop := e.l.size ≤ maxLen ∧ (-9223372036854775808 ≤ e.o ∧ e.o ≤ 9223372036854775807) ∧ e.r.size ≤ maxLen ∧ (-9223372036854775808 ≤ e.n ∧ e.n ≤ 9223372036854775807)
def cF_ (es : List Fl) : List Value := es.flatMap Fl.cells
theorem cF__len (es : List Fl) : (cF_ es).length = es.length * 4 := by
  induction es with
  | nil => rfl
  | cons e r ih => simp only [cF_, List.flatMap_cons, List.length_append, List.length_cons, Fl.cells, List.length_nil] at ih ⊢; omega
theorem cF__append (es fs : List Fl) : cF_ (es ++ fs) = cF_ es ++ cF_ fs := List.flatMap_append
theorem cF__at : ∀ (es : List Fl) (k : Nat) (h : k < es.length), (cF_ es)[k * 4]? = some (.string es[k].l) ∧ (cF_ es)[k * 4 + 1]? = some (.int .i64 es[k].o) ∧ (cF_ es)[k * 4 + 2]? = some (.string es[k].r) ∧ (cF_ es)[k * 4 + 3]? = some (.int .i64 es[k].n)
  | e :: r, 0, _ => ⟨rfl, rfl, rfl, rfl⟩
  | e :: r, k + 1, h => by
    have ih := cF__at r k (by simpa using h)
    rw [show (k + 1) * 4 = k * 4 + 1 + 1 + 1 + 1 by omega]
    show (e.cells ++ cF_ r)[k * 4 + 1 + 1 + 1 + 1]? = _ ∧ (e.cells ++ cF_ r)[k * 4 + 1 + 1 + 1 + 1 + 1]? = _ ∧ (e.cells ++ cF_ r)[k * 4 + 1 + 1 + 1 + 1 + 2]? = _ ∧ (e.cells ++ cF_ r)[k * 4 + 1 + 1 + 1 + 1 + 3]? = _
    simp only [Fl.cells, List.cons_append, List.nil_append, List.getElem?_cons_succ, List.getElem_cons_succ]
    exact ih
theorem oneCell_F_ (es : List Fl) : ∀ u ∈ cF_ es, u.oneCell' = true := by
  intro u hu
  obtain ⟨e, _, h⟩ := List.mem_flatMap.1 hu
  simp only [Fl.cells, List.mem_cons, List.not_mem_nil, or_false] at h
  rcases h with rfl | rfl | rfl | rfl <;> rfl
theorem cF__next {es : List Fl} {k : Nat} (h : k < es.length) : cF_ (es.take (k + 1)) = cF_ (es.take k) ++ es[k].cells := by
  rw [List.take_succ_eq_append_getElem h, cF__append]
  simp [cF_]
/-- A slice of them reads as es. -/
def RdF_ (w : World) (A : Option Addr) (es : List Fl) : Prop := Rd w 4 A es.length (cF_ es)
theorem RdF_.below {w w' : World} {A : Option Addr} {es : List Fl} (h : RdF_ w A es) (hb : Below w.heap.size w w') : RdF_ w' A es := Rd.below h hb
theorem RdF_.own {w : World} {b0 : Nat} {e : TypeId} {A : Option Addr} {c : Nat} {es : List Fl} (h : w.ownsRow b0 e 4 (.slice A es.length c) es.length (cF_ es)) : RdF_ w A es := Rd.of_own h
theorem RdF_.at_ {w : World} {A : Option Addr} {es : List Fl} {k : Nat} (h : RdF_ w A es) (hk : k < es.length) :
    ∃ b o, A = some ⟨b, o, none⟩ ∧ w.cell? ⟨b, o + k * 4, none⟩ = some (.string es[k].l) ∧ w.cell? ⟨b, o + k * 4 + 1, none⟩ = some (.int .i64 es[k].o) ∧ w.cell? ⟨b, o + k * 4 + 2, none⟩ = some (.string es[k].r) ∧ w.cell? ⟨b, o + k * 4 + 3, none⟩ = some (.int .i64 es[k].n) := by
  obtain ⟨ad, e, hc⟩ := h.2 (by omega)
  obtain ⟨h0, h1, h2, h3⟩ := cF__at es k hk
  have c0 := hc _ _ h0
  have c1 := hc _ _ h1
  have c2 := hc _ _ h2
  have c3 := hc _ _ h3
  have cz := hc 0 _ (cF__at es 0 (by omega)).1
  obtain ⟨b, off, spot⟩ := ad
  have hspot : spot = none := by simpa [Addr.add] using World.cell?_spot cz
  subst hspot
  have hp : ∀ j, (⟨b, off, none⟩ : Addr).add j = ⟨b, off + j, none⟩ := by intro j; unfold Addr.add; split <;> simp_all
  rw [hp] at c0 c1 c2 c3
  exact ⟨b, off, e, c0, by rw [Nat.add_assoc]; exact c1, by rw [Nat.add_assoc]; exact c2, by rw [Nat.add_assoc]; exact c3⟩
theorem RdF_.of_cells {w : World} {a : Addr} {es : List Fl} (h : ∀ i (hi : i < es.length), w.cell? (a.add (i * 4)) = some (.string es[i].l) ∧ w.cell? (a.add (i * 4 + 1)) = some (.int .i64 es[i].o) ∧ w.cell? (a.add (i * 4 + 2)) = some (.string es[i].r) ∧ w.cell? (a.add (i * 4 + 3)) = some (.int .i64 es[i].n)) : RdF_ w (some a) es := by
  refine ⟨cF__len es, fun _ => ⟨a, rfl, fun j u hu => ?_⟩⟩
  have hj : j < es.length * 4 := by have := (List.getElem?_eq_some_iff.1 hu).1; rw [cF__len] at this; exact this
  have hi : j / 4 < es.length := by omega
  obtain ⟨g0, g1, g2, g3⟩ := h (j / 4) hi
  obtain ⟨e0, e1, e2, e3⟩ := cF__at es (j / 4) hi
  rcases (by omega : j = j / 4 * 4 ∨ j = j / 4 * 4 + 1 ∨ j = j / 4 * 4 + 2 ∨ j = j / 4 * 4 + 3) with hj | hj | hj | hj
  · rw [hj] at hu ⊢; rw [g0, ← e0, hu]
  · rw [hj] at hu ⊢; rw [g1, ← e1, hu]
  · rw [hj] at hu ⊢; rw [g2, ← e2, hu]
  · rw [hj] at hu ⊢; rw [g3, ← e3, hu]

theorem own_F_ {w : World} {base : Nat} {e : TypeId} {g n cap : Nat} {ys : List Value} (h : w.ownsRow base e 4 (.slice (some ⟨g, 0, none⟩) n cap) n ys) {k : Nat} (hk : k < n) :
    ∃ u0 u1 u2 u3, w.cell? ⟨g, k * 4, none⟩ = some u0 ∧ w.cell? ⟨g, k * 4 + 1, none⟩ = some u1 ∧ w.cell? ⟨g, k * 4 + 2, none⟩ = some u2 ∧ w.cell? ⟨g, k * 4 + 3, none⟩ = some u3 ∧ w.frozen? ⟨g, k * 4, none⟩ = false ∧ w.frozen? ⟨g, k * 4 + 1, none⟩ = false ∧ w.frozen? ⟨g, k * 4 + 2, none⟩ = false ∧ w.frozen? ⟨g, k * 4 + 3, none⟩ = false := by
  have hl := h.1
  have c : ∀ j, j < n * 4 → w.cell? ⟨g, j, none⟩ = some (ys.getD j undef) := fun j hj => by
    rw [h.cellAt j hj]
    simp [List.getD, List.getElem?_eq_getElem (show j < ys.length by omega)]
  exact ⟨_, _, _, _, c _ (by omega), c _ (by omega), c _ (by omega), c _ (by omega), h.frozenAt _, h.frozenAt _, h.frozenAt _, h.frozenAt _⟩
theorem own_F__stored {w : World} {base : Nat} {e : TypeId} {g n cap : Nat} {ys : List Value} (h : w.ownsRow base e 4 (.slice (some ⟨g, 0, none⟩) n cap) n ys) (k : Nat) (a0 a1 a2 a3 : Value) :
    ((((w.setCell ⟨g, k * 4, none⟩ a0).setCell ⟨g, k * 4 + 1, none⟩ a1).setCell ⟨g, k * 4 + 2, none⟩ a2).setCell ⟨g, k * 4 + 3, none⟩ a3).ownsRow base e 4 (.slice (some ⟨g, 0, none⟩) n cap) n ((((ys.set (k * 4) a0).set (k * 4 + 1) a1).set (k * 4 + 2) a2).set (k * 4 + 3) a3) ∧ w.grownBy ((((w.setCell ⟨g, k * 4, none⟩ a0).setCell ⟨g, k * 4 + 1, none⟩ a1).setCell ⟨g, k * 4 + 2, none⟩ a2).setCell ⟨g, k * 4 + 3, none⟩ a3) (some g) := by
  have h0 := h.stored (k * 4) a0
  have h1 := h0.1.stored (k * 4 + 1) a1
  have h2 := h1.1.stored (k * 4 + 2) a2
  have h3 := h2.1.stored (k * 4 + 3) a3
  exact ⟨h3.1, (((h0.2.trans h1.2).trans h2.2).trans h3.2)⟩
theorem take_setF_ (ys : List Value) (k : Nat) (a0 a1 a2 a3 : Value) (h : k * 4 + 3 < ys.length) :
    ((((ys.set (k * 4) a0).set (k * 4 + 1) a1).set (k * 4 + 2) a2).set (k * 4 + 3) a3).take ((k + 1) * 4) = ys.take (k * 4) ++ [a0, a1, a2, a3] := by
  rw [show (k + 1) * 4 = k * 4 + 1 + 1 + 1 + 1 by omega]
  rw [List.take_succ_eq_append_getElem (by simp; omega), List.take_succ_eq_append_getElem (by simp; omega), List.take_succ_eq_append_getElem (by simp; omega), List.take_succ_eq_append_getElem (by simp; omega)]
  simp [List.take_set_of_le]
theorem Try.infoF_ : (Try.prog.info? 88).map (fun i => (i.zero, i.size, i.bytes)) = some (some (.agg #[.string ⟨#[]⟩, .int .i64 0, .string ⟨#[]⟩, .int .i64 0]), 4, 48) := by kernel_rfl

set_option maxRecDepth 100000 in
theorem toFilter_any (e : Fl) (w : World) : Calls Try.prog 102 #[e.val] w fun r w' => r = .returned e.val ∧ Below w.heap.size w w' := by
  obtain ⟨l, o, r, n⟩ := e
  unfold Fl.val
  go_enter Try.func102, Try.ntmps102
  go_wp2
  refine bodyPost_ret (v := .agg #[.string l, .int .i64 o, .string r, .int .i64 n]) (by simp [results, Try.results102, go_sem]) rfl ⟨rfl, ?_⟩
  exact (((Below.refl w.heap.size w).alloc (Nat.le_refl _) _).alloc (by simp) _).alloc (by simp; omega) _

/-- What a call that makes a slice of them leaves. -/
def MadeF_ (w : World) (es : List Fl) (e : Ending) (w' : World) : Prop := ∃ A c, e = .returned (.slice A es.length c) ∧ w'.ownsRow w.heap.size 88 4 (.slice A es.length c) es.length (cF_ es) ∧ Below w.heap.size w w'

set_option maxRecDepth 100000 in
set_option maxHeartbeats 1600000 in
theorem toFilterS_any (A : Option Addr) (c : Nat) (es : List Fl) (w : World) (hx : RdF_ w A es) (hn : es.length ≤ 4294967296) :
    Calls Try.prog 50 #[.slice A es.length c] w (MadeF_ w es) := by
  obtain ⟨i0, hi, hz0, hz1, hz2⟩ := info_parts Try.infoF_
  have HX := Lib.hid hx
  clear hx
  go_enter Try.func50, Try.ntmps50
  go_wp2_with (first
    | (at_make
       refine wpList_make_full _ rfl _ _ 30 rfl w.heap.size 88 i0 _ 4 Try.underlying30 hi hz0 hz1 .i64 .i64 (es.length : Int) (es.length : Int) es.length rfl rfl rfl rfl (by rw [hz2]; omega) (by unfold maxLen; omega) (Nat.le_refl _) ?_
       intro w0 hown0 hg0
       have hb0 := (Below.refl w.heap.size w).grown hg0 (Nat.le_refl _) (fun g hg => by cases hg)))
  go_loopw [4] (fun i wr => ∃ (k : Nat) (ys : List Value), k ≤ es.length ∧ i = .int .i64 k ∧ ys.length ≤ es.length * 4 ∧ es.length * 4 ≤ ys.length ∧ Hid (ys.take (k * 4) = cF_ (es.take k)) ∧ wr.ownsRow w.heap.size 88 4 (.slice (some ⟨w.heap.size, 0, none⟩) es.length es.length) es.length ys ∧ Below w.heap.size w wr) (fun i _ => es.length - (intOf i).toNat)
  case atStart =>
    have := hown0.1
    exact ⟨0, _, Nat.zero_le _, rfl, by omega, by omega, by show _ = _; simp [cF_], hown0, hb0⟩
  case round =>
    obtain ⟨k, ys, hk, rfl, hy1, hy2, HT, hown, hb⟩ := hrel
    clear hown0 hg0 hb0
    by_cases hlt : k < es.length
    · obtain ⟨b, o, rfl, hc0, hc1, hc2, hc3⟩ := (RdF_.below HX.out hb).at_ hlt
      obtain ⟨ed, hed⟩ : ∃ ed, es[k] = ed := ⟨_, rfl⟩
      rw [hed] at hc0 hc1 hc2 hc3
      have HED := Lib.hid hed
      clear hed
      have T := Lib.hid (fun w => toFilter_any ed w)
      obtain ⟨l, o, r, n⟩ := ed
      unfold Fl.val at T
      simp only at hc0 hc1 hc2 hc3
      go_wp2_with fail
      refine (T.out _).mono ?_
      rintro e w1 ⟨rfl, hb1⟩
      have hown1 := own_below hown hb1
      obtain ⟨u0, u1, u2, u3, d0, d1, d2, d3, f0, f1, f2, f3⟩ := own_F_ hown1 hlt
      have hst := own_F__stored hown1 k (.string l) (.int .i64 o) (.string r) (.int .i64 n)
      have HS := Lib.hid hst
      have HB := Lib.hid (below_step hb hb1)
      clear hst hown hown1 hb hb1 hc0 hc1 hc2 hc3 T
      go_wp2
      go_roundw
      case rel =>
        refine ⟨k + 1, _, by omega, by go_num, ?_, ?_, ?_, HS.out.1, HB.out.grown HS.out.2 HB.out.size (fun g hg => by cases hg; exact Nat.le_refl _)⟩
        · simp; omega
        · simp; omega
        · show _ = _
          rw [take_setF_ ys k _ _ _ _ (by omega), HT.out, cF__next hlt, HED.out]
          rfl
      case measure => simp [intOf]; omega
    · obtain rfl : k = es.length := by omega
      have e1 : ys = cF_ es := by
        have := HT.out
        rw [List.take_of_length_le (by omega), List.take_of_length_le (Nat.le_refl _)] at this
        exact this
      subst e1
      go_wp2
      go_ret
      exact ⟨_, _, rfl, hown, hb⟩

theorem ret_pF_ {p : Prop} {b : Bool} (h : PP p = b) : Ending.returned (.bool b) = .returned (.bool (PP p)) := by rw [h]
set_option maxRecDepth 100000 in
theorem eqFilter_any (a b : Fl) (w : World) : Calls Try.prog 104 #[a.val, b.val] w fun e w' => e = .returned (.bool (PP (a = b))) ∧ Below w.heap.size w w' := by
  obtain ⟨pl, po, pr, pn⟩ := a
  obtain ⟨ql, qo, qr, qn⟩ := b
  unfold Fl.val
  by_cases h0 : pl = ql
  rotate_left
  · rw [PP_no (fun h => h0 (by injection h))]
    have q0 := toList_no h0
    clear h0
    go_enter Try.func104, Try.ntmps104
    go_wp2
    go_ret
    exact ⟨rfl, ((Below.refl w.heap.size w).alloc (Nat.le_refl _) _).alloc (by simp) _⟩
  subst h0
  have q0 := toList_yes (Eq.refl pl)
  by_cases h1 : po = qo
  rotate_left
  · rw [PP_no (fun h => h1 (by injection h))]
    have q1 : (po != qo) = true := by rw [bne_iff_ne]; exact h1
    clear h1
    go_enter Try.func104, Try.ntmps104
    go_wp2
    go_ret
    exact ⟨rfl, ((Below.refl w.heap.size w).alloc (Nat.le_refl _) _).alloc (by simp) _⟩
  subst h1
  have q1 : (po != po) = false := by simp
  by_cases h2 : pr = qr
  rotate_left
  · rw [PP_no (fun h => h2 (by injection h))]
    have q2 := toList_no h2
    clear h2
    go_enter Try.func104, Try.ntmps104
    go_wp2
    go_ret
    exact ⟨rfl, ((Below.refl w.heap.size w).alloc (Nat.le_refl _) _).alloc (by simp) _⟩
  subst h2
  have q2 := toList_yes (Eq.refl pr)
  by_cases h3 : pn = qn
  rotate_left
  · rw [PP_no (fun h => h3 (by injection h))]
    have q3 : (pn != qn) = true := by rw [bne_iff_ne]; exact h3
    clear h3
    go_enter Try.func104, Try.ntmps104
    go_wp2
    go_ret
    exact ⟨rfl, ((Below.refl w.heap.size w).alloc (Nat.le_refl _) _).alloc (by simp) _⟩
  subst h3
  have q3 : (pn != pn) = false := by simp
  rw [PP_yes rfl]
  go_enter Try.func104, Try.ntmps104
  go_wp2
  go_ret
  exact ⟨rfl, ((Below.refl w.heap.size w).alloc (Nat.le_refl _) _).alloc (by simp) _⟩

set_option maxRecDepth 100000 in
set_option maxHeartbeats 1600000 in
theorem eqFilterS_any (A B : Option Addr) (c d : Nat) (xs ys : List Fl) (w : World) (hx : RdF_ w A xs) (hy : RdF_ w B ys) (hn : xs.length ≤ 4294967296) (hm : ys.length ≤ 4294967296) :
    Calls Try.prog 55 #[.slice A xs.length c, .slice B ys.length d] w fun e w' => e = .returned (.bool (PP (xs = ys))) ∧ Below w.heap.size w w' := by
  have HX := Lib.hid hx
  have HY := Lib.hid hy
  clear hx hy
  by_cases hnm : xs.length = ys.length
  · have b1 : ((xs.length : Int) != (ys.length : Int)) = false := by rw [bne_eq_false_iff_eq]; omega
    have l1 : xs.length ≤ ys.length := by omega
    have l2 : ys.length ≤ xs.length := by omega
    clear hnm
    go_enter Try.func55, Try.ntmps55
    go_wp2
    go_loopw [5] (fun i wr => ∃ k : Nat, k ≤ xs.length ∧ i = .int .i64 k ∧ Hid (xs.take k = ys.take k) ∧ Below w.heap.size w wr) (fun i _ => xs.length - (intOf i).toNat)
    case atStart => exact ⟨0, Nat.zero_le _, rfl, by show _ = _; simp, Below.refl _ _⟩
    case round =>
      obtain ⟨k, hk, rfl, HE, hb⟩ := hrel
      by_cases hlt : k < xs.length
      · have hlt2 : k < ys.length := by omega
        obtain ⟨b, o, rfl, c0, c1, c2, c3⟩ := (RdF_.below HX.out hb).at_ hlt
        obtain ⟨b', o', rfl, c0', c1', c2', c3'⟩ := (RdF_.below HY.out hb).at_ hlt2
        obtain ⟨x, hxx⟩ : ∃ x, xs[k] = x := ⟨_, rfl⟩
        obtain ⟨y, hyy⟩ : ∃ y, ys[k] = y := ⟨_, rfl⟩
        rw [hxx] at c0 c1 c2 c3
        rw [hyy] at c0' c1' c2' c3'
        have EX := Lib.hid hxx
        have EY := Lib.hid hyy
        clear hxx hyy
        have k0 : (0 : Int) ≤ (k : Int) := by omega
        have k1 : (k : Int) < (xs.length : Int) := by omega
        have k2 : (k : Int) < (ys.length : Int) := by omega
        have T := Lib.hid (fun p : BelowOf wr => eqFilter_any x y p.w)
        obtain ⟨r, hr⟩ : ∃ r, PP (x = y) = r := ⟨_, rfl⟩
        rw [hr] at T
        have HR := Lib.hid hr
        have HB := Lib.hid hb
        obtain ⟨xl, xo, xr, xn⟩ := x
        obtain ⟨yl, yo, yr, yn⟩ := y
        unfold Fl.val at T
        simp only at c0 c1 c2 c3 c0' c1' c2' c3'
        have e0 := fun p => cellQ c0 p
        have e1 := fun p => cellQ c1 p
        have e2 := fun p => cellQ c2 p
        have e3 := fun p => cellQ c3 p
        have e0' := fun p => cellQ c0' p
        have e1' := fun p => cellQ c1' p
        have e2' := fun p => cellQ c2' p
        have e3' := fun p => cellQ c3' p
        clear hr hb c0 c1 c2 c3 c0' c1' c2' c3'
        go_wp2_with fail
        refine wp_region_below (by kernel_rfl) (by kernel_rfl) ?_
        repeat (first
          | go_big_quiet_step ((go_at_call 104; exact Calls.below_of (T.out _)))
          | quiet_step ((go_at_call 104; exact Calls.below_of (T.out _))))
        refine wpQuiet_nil ?_
        intro _ hw'
        obtain ⟨⟨w5, kk⟩, hw''⟩ := hw'
        subst hw''
        clear e0 e1 e2 e3 e0' e1' e2' e3'
        have B5 := Lib.hid (below_step HB.out kk)
        clear kk
        cases r
        · go_wp2
          go_ret
          refine ⟨ret_pF_ (PP_no fun h => ?_), B5.out⟩
          have h1 : xs[k] = ys[k] := by subst h; rfl
          rw [EX.out, EY.out] at h1
          exact PP_not HR.out h1
        · go_wp2
          go_roundw
          case rel =>
            refine ⟨k + 1, by omega, by go_num, ?_, B5.out⟩
            show _ = _
            rw [List.take_succ_eq_append_getElem hlt, List.take_succ_eq_append_getElem hlt2, HE.out, EX.out, EY.out, PP_of HR.out]
          case measure => simp [intOf]; omega
      · obtain rfl : k = xs.length := by omega
        go_wp2
        go_ret
        refine ⟨ret_pF_ (PP_yes ?_), hb⟩
        have := HE.out
        rw [List.take_of_length_le (Nat.le_refl _), List.take_of_length_le l2] at this
        exact this
  · have b1 : ((xs.length : Int) != (ys.length : Int)) = true := by rw [bne_iff_ne]; omega
    rw [PP_no (fun h => hnm (by rw [h]))]
    clear hnm
    go_enter Try.func55, Try.ntmps55
    go_wp2
    go_ret
    exact ⟨rfl, Below.refl _ _⟩

/-- Sizes. -/
def Fl.tot (e : Fl) : Nat := e.l.size + e.r.size
def totF_ (es : List Fl) : Nat := (es.map Fl.tot).sum
theorem totF__next {es : List Fl} {k : Nat} (h : k < es.length) : totF_ (es.take (k + 1)) = totF_ (es.take k) + es[k].tot := by
  unfold totF_
  rw [List.take_succ_eq_append_getElem h, List.map_append, List.sum_append]
  simp only [List.map_cons, List.map_nil, List.sum_cons, List.sum_nil, Nat.add_zero]
theorem totF__le (es : List Fl) (k : Nat) : totF_ (es.take k) ≤ totF_ es := by
  unfold totF_
  conv => rhs; rw [← List.take_append_drop k es]
  rw [List.map_append, List.sum_append]
  omega
theorem ret_iF_ {a b : Int} (h : a = b) : Ending.returned (.int .i64 a) = .returned (.int .i64 b) := by rw [h]
def szF_ (t : Nat) (left : Int) : Int := if (t : Int) ≤ left then left - t else -1
set_option maxRecDepth 100000 in
set_option maxHeartbeats 1600000 in
theorem szFilter_any (e : Fl) (left : Int) (w : World) (hl : 0 ≤ left ∧ left ≤ 4611686018427387904) (hok : e.ok) :
    Calls Try.prog 100 #[e.val, .int .i64 left] w fun r w' => r = .returned (.int .i64 (szF_ e.tot left)) ∧ Below w.heap.size w w' := by
  obtain ⟨l, o, r, n⟩ := e
  unfold Fl.ok maxLen at hok
  unfold Fl.val Fl.tot
  simp only at hok ⊢
  obtain ⟨h0, h1, h2, h3⟩ := hok
  obtain ⟨hl0, hl1⟩ := hl
  by_cases g0 : 0 ≤ left - (l.size : Int)
  rotate_left
  · rw [show szF_ (l.size + r.size) left = -1 by unfold szF_; rw [if_neg (by omega)]]
    go_enter Try.func100, Try.ntmps100
    go_wp2
    go_ret
    exact ⟨rfl, (Below.refl _ _).alloc (Nat.le_refl _) _⟩
  by_cases g1 : 0 ≤ left - (l.size : Int) - (r.size : Int)
  rotate_left
  · rw [show szF_ (l.size + r.size) left = -1 by unfold szF_; rw [if_neg (by omega)]]
    go_enter Try.func100, Try.ntmps100
    go_wp2
    go_ret
    exact ⟨rfl, (Below.refl _ _).alloc (Nat.le_refl _) _⟩
  rw [show szF_ (l.size + r.size) left = left - (l.size : Int) - (r.size : Int) by unfold szF_; rw [if_pos (by omega)]; omega]
  go_enter Try.func100, Try.ntmps100
  go_wp2
  go_ret
  exact ⟨rfl, (Below.refl _ _).alloc (Nat.le_refl _) _⟩

set_option maxRecDepth 100000 in
set_option maxHeartbeats 1600000 in
theorem szFilterS_any (A : Option Addr) (c : Nat) (es : List Fl) (left : Int) (w : World) (hx : RdF_ w A es) (hl : 0 ≤ left ∧ left ≤ 4611686018427387904) (hn : es.length ≤ 9223372036854775807) (hok : ∀ e ∈ es, e.ok) :
    Calls Try.prog 46 #[.slice A es.length c, .int .i64 left] w fun r w' => r = .returned (.int .i64 (szF_ (es.length + totF_ es) left)) ∧ Below w.heap.size w w' := by
  obtain ⟨hl0, hl1⟩ := hl
  have HX := Lib.hid hx
  have HOK := Lib.hid hok
  clear hx hok
  obtain ⟨R, hR⟩ : ∃ R, szF_ (es.length + totF_ es) left = R := ⟨_, rfl⟩
  have HR := Lib.hid hR
  rw [hR]
  clear hR
  by_cases hn1 : (es.length : Int) ≤ left
  rotate_left
  · have HN := Lib.hid (show R = -1 by rw [← HR.out]; unfold szF_; rw [if_neg (by omega)])
    go_enter Try.func46, Try.ntmps46
    go_wp2
    go_ret
    exact ⟨ret_iF_ HN.out.symm, Below.refl _ _⟩
  go_enter Try.func46, Try.ntmps46
  go_wp2_with fail
  go_loopw [1, 5] (fun v i wr => ∃ (k : Nat) (m : Int), k ≤ es.length ∧ i = .int .i64 k ∧ v = .int .i64 m ∧ 0 ≤ m ∧ m ≤ left ∧ Hid (m + (es.length : Int) + (totF_ (es.take k) : Int) = left) ∧ Below w.heap.size w wr) (fun _ i _ => es.length - (intOf i).toNat)
  case atStart => exact ⟨0, _, by omega, rfl, rfl, by omega, by omega, by show _ = _; simp [totF_], Below.refl _ _⟩
  case round =>
    obtain ⟨k, m, hk, rfl, rfl, hm0, hm1, HM, hb⟩ := hrel
    by_cases hlt : k < es.length
    · obtain ⟨b, o, rfl, c0, c1, c2, c3⟩ := (RdF_.below HX.out hb).at_ hlt
      have hnx := totF__next hlt
      have hle := totF__le es (k + 1)
      obtain ⟨x, hxx⟩ : ∃ x, es[k] = x := ⟨_, rfl⟩
      have hxo := HOK.out es[k] (List.getElem_mem hlt)
      have T := Lib.hid (fun w => szFilter_any x m w (by omega) (by rw [← hxx]; exact hxo))
      rw [hxx] at c0 c1 c2 c3 hnx
      have HNX := Lib.hid hnx
      have HLE := Lib.hid hle
      have HB := Lib.hid hb
      obtain ⟨tt_, htt⟩ : ∃ t, x.tot = t := ⟨_, rfl⟩
      have HTT := Lib.hid htt
      rw [htt] at T
      obtain ⟨l, o, r, n⟩ := x
      unfold Fl.val at T
      simp only at c0 c1 c2 c3
      have k0 : (0 : Int) ≤ (k : Int) := by omega
      have k1 : (k : Int) < (es.length : Int) := by omega
      clear hxx hxo hnx hle hb htt
      by_cases htm : (tt_ : Int) ≤ m
      · rw [show szF_ tt_ m = m - tt_ by unfold szF_; rw [if_pos htm]] at T
        go_wp2_with fail
        refine (T.out _).mono ?_
        rintro e w1 ⟨rfl, k1'⟩
        have B1 := Lib.hid (below_step HB.out k1')
        clear k1'
        go_wp2
        go_roundw
        case rel => exact ⟨k + 1, _, by omega, by go_num, rfl, by omega, by omega, by show _ = _; have h1 := HM.out; have h2 := HNX.out; have h3 := HTT.out; omega, B1.out⟩
        case measure => simp [intOf]; omega
      · rw [show szF_ tt_ m = -1 by unfold szF_; rw [if_neg htm]] at T
        go_wp2_with fail
        refine (T.out _).mono ?_
        rintro e w1 ⟨rfl, k1'⟩
        have B1 := Lib.hid (below_step HB.out k1')
        clear k1'
        go_wp2
        go_ret
        exact ⟨ret_iF_ (by rw [← HR.out]; unfold szF_; rw [if_neg (by have h1 := HM.out; have h2 := HNX.out; have h3 := HTT.out; have h4 := HLE.out; omega)]), B1.out⟩
    · obtain rfl : k = es.length := by omega
      have h1 := HM.out
      rw [List.take_of_length_le (Nat.le_refl _)] at h1
      have H1 := Lib.hid h1
      clear h1
      go_wp2
      go_ret
      exact ⟨ret_iF_ (by rw [← HR.out]; unfold szF_; have h1 := H1.out; rw [if_pos (by omega)]; omega), hb⟩

section
variable {H : Type} {enc : TypeId × Value → H} {w : World} {base : Nat} {spare : Nat → Bool} {held : Bool}
set_option maxRecDepth 100000 in
theorem filter_cells {n : Nat} {cs : List Value} {x : DataW H × List MemPlace} (h : DataW.trod enc Try.prog w base spare held n 148 cs = some x) (hl : cs.length = 4) :
    ∃ e : Fl, cs = e.cells ∧ e.ok := by
  obtain ⟨xs, m, _, _, _, hxl, hf⟩ := DataW.trod_struct Try.underlying148 h
  match cs, hl with
  | [c0, c1, c2, c3], _ =>
    match xs, hxl with
    | [y0, y1, y2, y3], _ =>
      have h0 : DataW.trod enc Try.prog w base spare held m 9 (List.take (Try.prog.cellsOf 9) [c0, c1, c2, c3]) = some y0 := hf 0 _ rfl
      have h1 : DataW.trod enc Try.prog w base spare held m 3 (List.take (Try.prog.cellsOf 3) [c1, c2, c3]) = some y1 := hf 1 _ rfl
      have h2 : DataW.trod enc Try.prog w base spare held m 9 (List.take (Try.prog.cellsOf 9) [c2, c3]) = some y2 := hf 2 _ rfl
      have h3 : DataW.trod enc Try.prog w base spare held m 3 (List.take (Try.prog.cellsOf 3) [c3]) = some y3 := hf 3 _ rfl
      rw [Try.cellsStr] at h0 h2
      rw [Try.cellsInt] at h1 h3
      simp only [List.take] at h0 h1 h2 h3
      obtain ⟨v0, e0, _, w0⟩ := DataW.trod_string Try.underlying9 h0
      obtain ⟨v1, e1, _, w1⟩ := DataW.trod_int Try.underlying3 h1
      obtain ⟨v2, e2, _, w2⟩ := DataW.trod_string Try.underlying9 h2
      obtain ⟨v3, e3, _, w3⟩ := DataW.trod_int Try.underlying3 h3
      simp at e0 e1 e2 e3
      subst e0 e1 e2 e3
      exact ⟨⟨v0, v1, v2, v3⟩, rfl, w0, bounds_i64 w1, w2, bounds_i64 w3⟩
theorem Try.cellsF_2 : Try.prog.cellsOf 148 = 4 := by kernel_rfl
theorem open_filterS {fuel : Nat} {v : Value} {x : DataW H × List MemPlace} (h : DataW.trod enc Try.prog w base spare held fuel 24 [v] = some x) :
    ∃ (A : Option Addr) (c : Nat) (es : List Fl), v = .slice A es.length c ∧ RdF_ w A es ∧ es.length ≤ c ∧ c ≤ maxLen ∧ ∀ e ∈ es, e.ok := by
  rcases open_slice Try.underlying24 h with ⟨hcs, _⟩ | ⟨a, len, cap, m, n, D, Pl, hcs, _, hl, hm, hmm, _, hi⟩
  · simp at hcs
    subst hcs
    exact ⟨none, 0, [], rfl, ⟨rfl, fun h => absurd h (by simp)⟩, Nat.le_refl _, by unfold maxLen; omega, by simp⟩
  · simp at hcs
    subst hcs
    have hlm : len ≤ m := by rw [hmm]; split <;> omega
    obtain ⟨es, hes, hp⟩ := list_of (α := Fl) (P := fun i e => (w.cell? (a.add (i * 4)) = some (.string e.l) ∧ w.cell? (a.add (i * 4 + 1)) = some (.int .i64 e.o) ∧ w.cell? (a.add (i * 4 + 2)) = some (.string e.r) ∧ w.cell? (a.add (i * 4 + 3)) = some (.int .i64 e.n)) ∧ e.ok) len (fun i hil => by
      obtain ⟨cs', hc, ht⟩ := hi i (by omega)
      rw [Try.cellsF_2] at hc
      obtain ⟨_, hcl, hat⟩ := World.cells?_some hc
      obtain ⟨e, rfl, hok⟩ := filter_cells ht hcl
      have h0 := hat 0 (by omega)
      have h1 := hat 1 (by omega)
      have h2 := hat 2 (by omega)
      have h3 := hat 3 (by omega)
      rw [add_of_add] at h0 h1 h2 h3
      exact ⟨e, ⟨h0, h1, h2, h3⟩, hok⟩)
    subst hes
    refine ⟨some a, cap, es, rfl, RdF_.of_cells fun i hi => (hp i hi).1, hl, hm, fun e he => ?_⟩
    obtain ⟨i, hi, rfl⟩ := List.getElem_of_mem he
    exact (hp i hi).2
end
end Go.Proofs.Ytlnphcongijfiaa
