/- Atoms: structs of strings and ints, and slices of them: copied, compared, sized, marked; opened. No conditions but the lengths. Printed by flat.py. -/
import Derived.Test.YtlnphcongijfiaaTxtS
import Derived.Test.YtlnphcongijfiaaPP
import Derived.Deep.RegionHeld3
namespace Go.Proofs.Ytlnphcongijfiaa
open Go.ChangeShapes Go.WideShapes Go.ChangeAt Go.RowKit Go.Joins Go.Deep

structure At where
  f : ByteArray
  p : ByteArray
  t : ByteArray
instance : Inhabited At := ⟨⟨noT, noT, noT⟩⟩
def At.val (e : At) : Value := .agg #[.string e.f, .string e.p, .string e.t]
def At.cells (e : At) : List Value := [.string e.f, .string e.p, .string e.t]
def At.ok (e : At) : Prop := e.f.size ≤ maxLen ∧ e.p.size ≤ maxLen ∧ e.t.size ≤ maxLen
def cA_ (es : List At) : List Value := es.flatMap At.cells
theorem cA__len (es : List At) : (cA_ es).length = es.length * 3 := by
  induction es with
  | nil => rfl
  | cons e r ih => simp only [cA_, List.flatMap_cons, List.length_append, List.length_cons, At.cells, List.length_nil] at ih ⊢; omega
theorem cA__append (es fs : List At) : cA_ (es ++ fs) = cA_ es ++ cA_ fs := List.flatMap_append
theorem cA__at : ∀ (es : List At) (k : Nat) (h : k < es.length), (cA_ es)[k * 3]? = some (.string es[k].f) ∧ (cA_ es)[k * 3 + 1]? = some (.string es[k].p) ∧ (cA_ es)[k * 3 + 2]? = some (.string es[k].t)
  | e :: r, 0, _ => ⟨rfl, rfl, rfl⟩
  | e :: r, k + 1, h => by
    have ih := cA__at r k (by simpa using h)
    rw [show (k + 1) * 3 = k * 3 + 1 + 1 + 1 by omega]
    show (e.cells ++ cA_ r)[k * 3 + 1 + 1 + 1]? = _ ∧ (e.cells ++ cA_ r)[k * 3 + 1 + 1 + 1 + 1]? = _ ∧ (e.cells ++ cA_ r)[k * 3 + 1 + 1 + 1 + 2]? = _
    simp only [At.cells, List.cons_append, List.nil_append, List.getElem?_cons_succ, List.getElem_cons_succ]
    exact ih
theorem oneCell_A_ (es : List At) : ∀ u ∈ cA_ es, u.oneCell' = true := by
  intro u hu
  obtain ⟨e, _, h⟩ := List.mem_flatMap.1 hu
  simp only [At.cells, List.mem_cons, List.not_mem_nil, or_false] at h
  rcases h with rfl | rfl | rfl <;> rfl
theorem cA__next {es : List At} {k : Nat} (h : k < es.length) : cA_ (es.take (k + 1)) = cA_ (es.take k) ++ es[k].cells := by
  rw [List.take_succ_eq_append_getElem h, cA__append]
  simp [cA_]
/-- A slice of them reads as es. -/
def RdA_ (w : World) (A : Option Addr) (es : List At) : Prop := Rd w 3 A es.length (cA_ es)
theorem RdA_.below {w w' : World} {A : Option Addr} {es : List At} (h : RdA_ w A es) (hb : Below w.heap.size w w') : RdA_ w' A es := Rd.below h hb
theorem RdA_.own {w : World} {b0 : Nat} {e : TypeId} {A : Option Addr} {c : Nat} {es : List At} (h : w.ownsRow b0 e 3 (.slice A es.length c) es.length (cA_ es)) : RdA_ w A es := Rd.of_own h
theorem RdA_.at_ {w : World} {A : Option Addr} {es : List At} {k : Nat} (h : RdA_ w A es) (hk : k < es.length) :
    ∃ b o, A = some ⟨b, o, none⟩ ∧ w.cell? ⟨b, o + k * 3, none⟩ = some (.string es[k].f) ∧ w.cell? ⟨b, o + k * 3 + 1, none⟩ = some (.string es[k].p) ∧ w.cell? ⟨b, o + k * 3 + 2, none⟩ = some (.string es[k].t) := by
  obtain ⟨ad, e, hc⟩ := h.2 (by omega)
  obtain ⟨h0, h1, h2⟩ := cA__at es k hk
  have c0 := hc _ _ h0
  have c1 := hc _ _ h1
  have c2 := hc _ _ h2
  have cz := hc 0 _ (cA__at es 0 (by omega)).1
  obtain ⟨b, off, spot⟩ := ad
  have hspot : spot = none := by simpa [Addr.add] using World.cell?_spot cz
  subst hspot
  have hp : ∀ j, (⟨b, off, none⟩ : Addr).add j = ⟨b, off + j, none⟩ := by intro j; unfold Addr.add; split <;> simp_all
  rw [hp] at c0 c1 c2
  exact ⟨b, off, e, c0, by rw [Nat.add_assoc]; exact c1, by rw [Nat.add_assoc]; exact c2⟩
theorem RdA_.of_cells {w : World} {a : Addr} {es : List At} (h : ∀ i (hi : i < es.length), w.cell? (a.add (i * 3)) = some (.string es[i].f) ∧ w.cell? (a.add (i * 3 + 1)) = some (.string es[i].p) ∧ w.cell? (a.add (i * 3 + 2)) = some (.string es[i].t)) : RdA_ w (some a) es := by
  refine ⟨cA__len es, fun _ => ⟨a, rfl, fun j u hu => ?_⟩⟩
  have hj : j < es.length * 3 := by have := (List.getElem?_eq_some_iff.1 hu).1; rw [cA__len] at this; exact this
  have hi : j / 3 < es.length := by omega
  obtain ⟨g0, g1, g2⟩ := h (j / 3) hi
  obtain ⟨e0, e1, e2⟩ := cA__at es (j / 3) hi
  rcases (by omega : j = j / 3 * 3 ∨ j = j / 3 * 3 + 1 ∨ j = j / 3 * 3 + 2) with hj | hj | hj
  · rw [hj] at hu ⊢; rw [g0, ← e0, hu]
  · rw [hj] at hu ⊢; rw [g1, ← e1, hu]
  · rw [hj] at hu ⊢; rw [g2, ← e2, hu]

theorem own_A_ {w : World} {base : Nat} {e : TypeId} {g n cap : Nat} {ys : List Value} (h : w.ownsRow base e 3 (.slice (some ⟨g, 0, none⟩) n cap) n ys) {k : Nat} (hk : k < n) :
    ∃ u0 u1 u2, w.cell? ⟨g, k * 3, none⟩ = some u0 ∧ w.cell? ⟨g, k * 3 + 1, none⟩ = some u1 ∧ w.cell? ⟨g, k * 3 + 2, none⟩ = some u2 ∧ w.frozen? ⟨g, k * 3, none⟩ = false ∧ w.frozen? ⟨g, k * 3 + 1, none⟩ = false ∧ w.frozen? ⟨g, k * 3 + 2, none⟩ = false := by
  have hl := h.1
  have c : ∀ j, j < n * 3 → w.cell? ⟨g, j, none⟩ = some (ys.getD j undef) := fun j hj => by
    rw [h.cellAt j hj]
    simp [List.getD, List.getElem?_eq_getElem (show j < ys.length by omega)]
  exact ⟨_, _, _, c _ (by omega), c _ (by omega), c _ (by omega), h.frozenAt _, h.frozenAt _, h.frozenAt _⟩
theorem own_A__stored {w : World} {base : Nat} {e : TypeId} {g n cap : Nat} {ys : List Value} (h : w.ownsRow base e 3 (.slice (some ⟨g, 0, none⟩) n cap) n ys) (k : Nat) (a0 a1 a2 : Value) :
    (((w.setCell ⟨g, k * 3, none⟩ a0).setCell ⟨g, k * 3 + 1, none⟩ a1).setCell ⟨g, k * 3 + 2, none⟩ a2).ownsRow base e 3 (.slice (some ⟨g, 0, none⟩) n cap) n (((ys.set (k * 3) a0).set (k * 3 + 1) a1).set (k * 3 + 2) a2) ∧ w.grownBy (((w.setCell ⟨g, k * 3, none⟩ a0).setCell ⟨g, k * 3 + 1, none⟩ a1).setCell ⟨g, k * 3 + 2, none⟩ a2) (some g) := by
  have h0 := h.stored (k * 3) a0
  have h1 := h0.1.stored (k * 3 + 1) a1
  have h2 := h1.1.stored (k * 3 + 2) a2
  exact ⟨h2.1, ((h0.2.trans h1.2).trans h2.2)⟩
theorem take_setA_ (ys : List Value) (k : Nat) (a0 a1 a2 : Value) (h : k * 3 + 2 < ys.length) :
    (((ys.set (k * 3) a0).set (k * 3 + 1) a1).set (k * 3 + 2) a2).take ((k + 1) * 3) = ys.take (k * 3) ++ [a0, a1, a2] := by
  rw [show (k + 1) * 3 = k * 3 + 1 + 1 + 1 by omega]
  rw [List.take_succ_eq_append_getElem (by simp; omega), List.take_succ_eq_append_getElem (by simp; omega), List.take_succ_eq_append_getElem (by simp; omega)]
  simp [List.take_set_of_le]
theorem Try.infoA_ : (Try.prog.info? 86).map (fun i => (i.zero, i.size, i.bytes)) = some (some (.agg #[.string ⟨#[]⟩, .string ⟨#[]⟩, .string ⟨#[]⟩]), 3, 48) := by kernel_rfl

set_option maxRecDepth 100000 in
theorem toAtom_any (e : At) (w : World) : Calls Try.prog 101 #[e.val] w fun r w' => r = .returned e.val ∧ Below w.heap.size w w' := by
  obtain ⟨f, p, t⟩ := e
  unfold At.val
  go_enter Try.func101, Try.ntmps101
  go_wp2
  refine bodyPost_ret (v := .agg #[.string f, .string p, .string t]) (by simp [results, Try.results101, go_sem]) rfl ⟨rfl, ?_⟩
  exact (((Below.refl w.heap.size w).alloc (Nat.le_refl _) _).alloc (by simp) _).alloc (by simp; omega) _

/-- What a call that makes a slice of them leaves. -/
def MadeA_ (w : World) (es : List At) (e : Ending) (w' : World) : Prop := ∃ A c, e = .returned (.slice A es.length c) ∧ w'.ownsRow w.heap.size 86 3 (.slice A es.length c) es.length (cA_ es) ∧ Below w.heap.size w w'

set_option maxRecDepth 100000 in
set_option maxHeartbeats 1600000 in
theorem toAtomS_any (A : Option Addr) (c : Nat) (es : List At) (w : World) (hx : RdA_ w A es) (hn : es.length ≤ 4294967296) :
    Calls Try.prog 49 #[.slice A es.length c] w (MadeA_ w es) := by
  obtain ⟨i0, hi, hz0, hz1, hz2⟩ := info_parts Try.infoA_
  have HX := Lib.hid hx
  clear hx
  go_enter Try.func49, Try.ntmps49
  go_wp2_with (first
    | (at_make
       refine wpList_make_full _ rfl _ _ 29 rfl w.heap.size 86 i0 _ 3 Try.underlying29 hi hz0 hz1 .i64 .i64 (es.length : Int) (es.length : Int) es.length rfl rfl rfl rfl (by rw [hz2]; omega) (by unfold maxLen; omega) (Nat.le_refl _) ?_
       intro w0 hown0 hg0
       have hb0 := (Below.refl w.heap.size w).grown hg0 (Nat.le_refl _) (fun g hg => by cases hg)))
  go_loopw [4] (fun i wr => ∃ (k : Nat) (ys : List Value), k ≤ es.length ∧ i = .int .i64 k ∧ ys.length ≤ es.length * 3 ∧ es.length * 3 ≤ ys.length ∧ Hid (ys.take (k * 3) = cA_ (es.take k)) ∧ wr.ownsRow w.heap.size 86 3 (.slice (some ⟨w.heap.size, 0, none⟩) es.length es.length) es.length ys ∧ Below w.heap.size w wr) (fun i _ => es.length - (intOf i).toNat)
  case atStart =>
    have := hown0.1
    exact ⟨0, _, Nat.zero_le _, rfl, by omega, by omega, by show _ = _; simp [cA_], hown0, hb0⟩
  case round =>
    obtain ⟨k, ys, hk, rfl, hy1, hy2, HT, hown, hb⟩ := hrel
    clear hown0 hg0 hb0
    by_cases hlt : k < es.length
    · obtain ⟨b, o, rfl, hc0, hc1, hc2⟩ := (RdA_.below HX.out hb).at_ hlt
      obtain ⟨ed, hed⟩ : ∃ ed, es[k] = ed := ⟨_, rfl⟩
      rw [hed] at hc0 hc1 hc2
      have HED := Lib.hid hed
      clear hed
      have T := Lib.hid (fun w => toAtom_any ed w)
      obtain ⟨f, p, t⟩ := ed
      unfold At.val at T
      simp only at hc0 hc1 hc2
      go_wp2_with fail
      refine (T.out _).mono ?_
      rintro e w1 ⟨rfl, hb1⟩
      have hown1 := own_below hown hb1
      obtain ⟨u0, u1, u2, d0, d1, d2, f0, f1, f2⟩ := own_A_ hown1 hlt
      have hst := own_A__stored hown1 k (.string f) (.string p) (.string t)
      have HS := Lib.hid hst
      have HB := Lib.hid (below_step hb hb1)
      clear hst hown hown1 hb hb1 hc0 hc1 hc2 T
      go_wp2
      go_roundw
      case rel =>
        refine ⟨k + 1, _, by omega, by go_num, ?_, ?_, ?_, HS.out.1, HB.out.grown HS.out.2 HB.out.size (fun g hg => by cases hg; exact Nat.le_refl _)⟩
        · simp; omega
        · simp; omega
        · show _ = _
          rw [take_setA_ ys k _ _ _ (by omega), HT.out, cA__next hlt, HED.out]
          rfl
      case measure => simp [intOf]; omega
    · obtain rfl : k = es.length := by omega
      have e1 : ys = cA_ es := by
        have := HT.out
        rw [List.take_of_length_le (by omega), List.take_of_length_le (Nat.le_refl _)] at this
        exact this
      subst e1
      go_wp2
      go_ret
      exact ⟨_, _, rfl, hown, hb⟩

theorem ret_pA_ {p : Prop} {b : Bool} (h : PP p = b) : Ending.returned (.bool b) = .returned (.bool (PP p)) := by rw [h]
set_option maxRecDepth 100000 in
theorem eqAtom_any (a b : At) (w : World) : Calls Try.prog 103 #[a.val, b.val] w fun e w' => e = .returned (.bool (PP (a = b))) ∧ Below w.heap.size w w' := by
  obtain ⟨pf, pp, pt⟩ := a
  obtain ⟨qf, qp, qt⟩ := b
  unfold At.val
  by_cases h0 : pf = qf
  rotate_left
  · rw [PP_no (fun h => h0 (by injection h))]
    have q0 := toList_no h0
    clear h0
    go_enter Try.func103, Try.ntmps103
    go_wp2
    go_ret
    exact ⟨rfl, ((Below.refl w.heap.size w).alloc (Nat.le_refl _) _).alloc (by simp) _⟩
  subst h0
  have q0 := toList_yes (Eq.refl pf)
  by_cases h1 : pp = qp
  rotate_left
  · rw [PP_no (fun h => h1 (by injection h))]
    have q1 := toList_no h1
    clear h1
    go_enter Try.func103, Try.ntmps103
    go_wp2
    go_ret
    exact ⟨rfl, ((Below.refl w.heap.size w).alloc (Nat.le_refl _) _).alloc (by simp) _⟩
  subst h1
  have q1 := toList_yes (Eq.refl pp)
  by_cases h2 : pt = qt
  rotate_left
  · rw [PP_no (fun h => h2 (by injection h))]
    have q2 := toList_no h2
    clear h2
    go_enter Try.func103, Try.ntmps103
    go_wp2
    go_ret
    exact ⟨rfl, ((Below.refl w.heap.size w).alloc (Nat.le_refl _) _).alloc (by simp) _⟩
  subst h2
  have q2 := toList_yes (Eq.refl pt)
  rw [PP_yes rfl]
  go_enter Try.func103, Try.ntmps103
  go_wp2
  go_ret
  exact ⟨rfl, ((Below.refl w.heap.size w).alloc (Nat.le_refl _) _).alloc (by simp) _⟩

set_option maxRecDepth 100000 in
set_option maxHeartbeats 1600000 in
theorem eqAtomS_any (A B : Option Addr) (c d : Nat) (xs ys : List At) (w : World) (hx : RdA_ w A xs) (hy : RdA_ w B ys) (hn : xs.length ≤ 4294967296) (hm : ys.length ≤ 4294967296) :
    Calls Try.prog 54 #[.slice A xs.length c, .slice B ys.length d] w fun e w' => e = .returned (.bool (PP (xs = ys))) ∧ Below w.heap.size w w' := by
  have HX := Lib.hid hx
  have HY := Lib.hid hy
  clear hx hy
  by_cases hnm : xs.length = ys.length
  · have b1 : ((xs.length : Int) != (ys.length : Int)) = false := by rw [bne_eq_false_iff_eq]; omega
    have l1 : xs.length ≤ ys.length := by omega
    have l2 : ys.length ≤ xs.length := by omega
    clear hnm
    go_enter Try.func54, Try.ntmps54
    go_wp2
    go_loopw [5] (fun i wr => ∃ k : Nat, k ≤ xs.length ∧ i = .int .i64 k ∧ Hid (xs.take k = ys.take k) ∧ Below w.heap.size w wr) (fun i _ => xs.length - (intOf i).toNat)
    case atStart => exact ⟨0, Nat.zero_le _, rfl, by show _ = _; simp, Below.refl _ _⟩
    case round =>
      obtain ⟨k, hk, rfl, HE, hb⟩ := hrel
      by_cases hlt : k < xs.length
      · have hlt2 : k < ys.length := by omega
        obtain ⟨b, o, rfl, c0, c1, c2⟩ := (RdA_.below HX.out hb).at_ hlt
        obtain ⟨b', o', rfl, c0', c1', c2'⟩ := (RdA_.below HY.out hb).at_ hlt2
        obtain ⟨x, hxx⟩ : ∃ x, xs[k] = x := ⟨_, rfl⟩
        obtain ⟨y, hyy⟩ : ∃ y, ys[k] = y := ⟨_, rfl⟩
        rw [hxx] at c0 c1 c2
        rw [hyy] at c0' c1' c2'
        have EX := Lib.hid hxx
        have EY := Lib.hid hyy
        clear hxx hyy
        have k0 : (0 : Int) ≤ (k : Int) := by omega
        have k1 : (k : Int) < (xs.length : Int) := by omega
        have k2 : (k : Int) < (ys.length : Int) := by omega
        have T := Lib.hid (fun p : BelowOf wr => eqAtom_any x y p.w)
        obtain ⟨r, hr⟩ : ∃ r, PP (x = y) = r := ⟨_, rfl⟩
        rw [hr] at T
        have HR := Lib.hid hr
        have HB := Lib.hid hb
        obtain ⟨xf, xp, xt⟩ := x
        obtain ⟨yf, yp, yt⟩ := y
        unfold At.val at T
        simp only at c0 c1 c2 c0' c1' c2'
        have e0 := fun p => cellQ c0 p
        have e1 := fun p => cellQ c1 p
        have e2 := fun p => cellQ c2 p
        have e0' := fun p => cellQ c0' p
        have e1' := fun p => cellQ c1' p
        have e2' := fun p => cellQ c2' p
        clear hr hb c0 c1 c2 c0' c1' c2'
        go_wp2_with fail
        refine wp_region_below (by kernel_rfl) (by kernel_rfl) ?_
        repeat (first
          | go_big_quiet_step ((go_at_call 103; exact Calls.below_of (T.out _)))
          | quiet_step ((go_at_call 103; exact Calls.below_of (T.out _))))
        refine wpQuiet_nil ?_
        intro _ hw'
        obtain ⟨⟨w5, kk⟩, hw''⟩ := hw'
        subst hw''
        clear e0 e1 e2 e0' e1' e2'
        have B5 := Lib.hid (below_step HB.out kk)
        clear kk
        cases r
        · go_wp2
          go_ret
          refine ⟨ret_pA_ (PP_no fun h => ?_), B5.out⟩
          have h1 : xs[k] = ys[k] := by subst h; rfl
          rw [EX.out, EY.out] at h1
          exact PP_not HR.out h1
        · go_wp2
          go_roundw
          case rel =>
            refine ⟨k + 1, by omega, by go_num, ?_, B5.out⟩
            show _ = _
            rw [List.take_succ_eq_append_getElem hlt, List.take_succ_eq_append_getElem hlt2, HE.out, EX.out, EY.out, PP_of HR.out]
          case measure => simp [intOf]; omega
      · obtain rfl : k = xs.length := by omega
        go_wp2
        go_ret
        refine ⟨ret_pA_ (PP_yes ?_), hb⟩
        have := HE.out
        rw [List.take_of_length_le (Nat.le_refl _), List.take_of_length_le l2] at this
        exact this
  · have b1 : ((xs.length : Int) != (ys.length : Int)) = true := by rw [bne_iff_ne]; omega
    rw [PP_no (fun h => hnm (by rw [h]))]
    clear hnm
    go_enter Try.func54, Try.ntmps54
    go_wp2
    go_ret
    exact ⟨rfl, Below.refl _ _⟩

/-- Sizes. -/
def At.tot (e : At) : Nat := e.f.size + e.p.size + e.t.size
def totA_ (es : List At) : Nat := (es.map At.tot).sum
theorem totA__next {es : List At} {k : Nat} (h : k < es.length) : totA_ (es.take (k + 1)) = totA_ (es.take k) + es[k].tot := by
  unfold totA_
  rw [List.take_succ_eq_append_getElem h, List.map_append, List.sum_append]
  simp only [List.map_cons, List.map_nil, List.sum_cons, List.sum_nil, Nat.add_zero]
theorem totA__le (es : List At) (k : Nat) : totA_ (es.take k) ≤ totA_ es := by
  unfold totA_
  conv => rhs; rw [← List.take_append_drop k es]
  rw [List.map_append, List.sum_append]
  omega
theorem ret_iA_ {a b : Int} (h : a = b) : Ending.returned (.int .i64 a) = .returned (.int .i64 b) := by rw [h]
def szA_ (t : Nat) (left : Int) : Int := if (t : Int) ≤ left then left - t else -1
set_option maxRecDepth 100000 in
set_option maxHeartbeats 1600000 in
theorem szAtom_any (e : At) (left : Int) (w : World) (hl : 0 ≤ left ∧ left ≤ 4611686018427387904) (hok : e.ok) :
    Calls Try.prog 99 #[e.val, .int .i64 left] w fun r w' => r = .returned (.int .i64 (szA_ e.tot left)) ∧ Below w.heap.size w w' := by
  obtain ⟨f, p, t⟩ := e
  unfold At.ok maxLen at hok
  unfold At.val At.tot
  simp only at hok ⊢
  obtain ⟨h0, h1, h2⟩ := hok
  obtain ⟨hl0, hl1⟩ := hl
  by_cases g0 : 0 ≤ left - (f.size : Int)
  rotate_left
  · rw [show szA_ (f.size + p.size + t.size) left = -1 by unfold szA_; rw [if_neg (by omega)]]
    go_enter Try.func99, Try.ntmps99
    go_wp2
    go_ret
    exact ⟨rfl, (Below.refl _ _).alloc (Nat.le_refl _) _⟩
  by_cases g1 : 0 ≤ left - (f.size : Int) - (p.size : Int)
  rotate_left
  · rw [show szA_ (f.size + p.size + t.size) left = -1 by unfold szA_; rw [if_neg (by omega)]]
    go_enter Try.func99, Try.ntmps99
    go_wp2
    go_ret
    exact ⟨rfl, (Below.refl _ _).alloc (Nat.le_refl _) _⟩
  by_cases g2 : 0 ≤ left - (f.size : Int) - (p.size : Int) - (t.size : Int)
  rotate_left
  · rw [show szA_ (f.size + p.size + t.size) left = -1 by unfold szA_; rw [if_neg (by omega)]]
    go_enter Try.func99, Try.ntmps99
    go_wp2
    go_ret
    exact ⟨rfl, (Below.refl _ _).alloc (Nat.le_refl _) _⟩
  rw [show szA_ (f.size + p.size + t.size) left = left - (f.size : Int) - (p.size : Int) - (t.size : Int) by unfold szA_; rw [if_pos (by omega)]; omega]
  go_enter Try.func99, Try.ntmps99
  go_wp2
  go_ret
  exact ⟨rfl, (Below.refl _ _).alloc (Nat.le_refl _) _⟩

set_option maxRecDepth 100000 in
set_option maxHeartbeats 1600000 in
theorem szAtomS_any (A : Option Addr) (c : Nat) (es : List At) (left : Int) (w : World) (hx : RdA_ w A es) (hl : 0 ≤ left ∧ left ≤ 4611686018427387904) (hn : es.length ≤ 9223372036854775807) (hok : ∀ e ∈ es, e.ok) :
    Calls Try.prog 45 #[.slice A es.length c, .int .i64 left] w fun r w' => r = .returned (.int .i64 (szA_ (es.length + totA_ es) left)) ∧ Below w.heap.size w w' := by
  obtain ⟨hl0, hl1⟩ := hl
  have HX := Lib.hid hx
  have HOK := Lib.hid hok
  clear hx hok
  obtain ⟨R, hR⟩ : ∃ R, szA_ (es.length + totA_ es) left = R := ⟨_, rfl⟩
  have HR := Lib.hid hR
  rw [hR]
  clear hR
  by_cases hn1 : (es.length : Int) ≤ left
  rotate_left
  · have HN := Lib.hid (show R = -1 by rw [← HR.out]; unfold szA_; rw [if_neg (by omega)])
    go_enter Try.func45, Try.ntmps45
    go_wp2
    go_ret
    exact ⟨ret_iA_ HN.out.symm, Below.refl _ _⟩
  go_enter Try.func45, Try.ntmps45
  go_wp2_with fail
  go_loopw [1, 5] (fun v i wr => ∃ (k : Nat) (m : Int), k ≤ es.length ∧ i = .int .i64 k ∧ v = .int .i64 m ∧ 0 ≤ m ∧ m ≤ left ∧ Hid (m + (es.length : Int) + (totA_ (es.take k) : Int) = left) ∧ Below w.heap.size w wr) (fun _ i _ => es.length - (intOf i).toNat)
  case atStart => exact ⟨0, _, by omega, rfl, rfl, by omega, by omega, by show _ = _; simp [totA_], Below.refl _ _⟩
  case round =>
    obtain ⟨k, m, hk, rfl, rfl, hm0, hm1, HM, hb⟩ := hrel
    by_cases hlt : k < es.length
    · obtain ⟨b, o, rfl, c0, c1, c2⟩ := (RdA_.below HX.out hb).at_ hlt
      have hnx := totA__next hlt
      have hle := totA__le es (k + 1)
      obtain ⟨x, hxx⟩ : ∃ x, es[k] = x := ⟨_, rfl⟩
      have hxo := HOK.out es[k] (List.getElem_mem hlt)
      have T := Lib.hid (fun w => szAtom_any x m w (by omega) (by rw [← hxx]; exact hxo))
      rw [hxx] at c0 c1 c2 hnx
      have HNX := Lib.hid hnx
      have HLE := Lib.hid hle
      have HB := Lib.hid hb
      obtain ⟨tt_, htt⟩ : ∃ t, x.tot = t := ⟨_, rfl⟩
      have HTT := Lib.hid htt
      rw [htt] at T
      obtain ⟨f, p, t⟩ := x
      unfold At.val at T
      simp only at c0 c1 c2
      have k0 : (0 : Int) ≤ (k : Int) := by omega
      have k1 : (k : Int) < (es.length : Int) := by omega
      clear hxx hxo hnx hle hb htt
      by_cases htm : (tt_ : Int) ≤ m
      · rw [show szA_ tt_ m = m - tt_ by unfold szA_; rw [if_pos htm]] at T
        go_wp2_with fail
        refine (T.out _).mono ?_
        rintro e w1 ⟨rfl, k1'⟩
        have B1 := Lib.hid (below_step HB.out k1')
        clear k1'
        go_wp2
        go_roundw
        case rel => exact ⟨k + 1, _, by omega, by go_num, rfl, by omega, by omega, by show _ = _; have h1 := HM.out; have h2 := HNX.out; have h3 := HTT.out; omega, B1.out⟩
        case measure => simp [intOf]; omega
      · rw [show szA_ tt_ m = -1 by unfold szA_; rw [if_neg htm]] at T
        go_wp2_with fail
        refine (T.out _).mono ?_
        rintro e w1 ⟨rfl, k1'⟩
        have B1 := Lib.hid (below_step HB.out k1')
        clear k1'
        go_wp2
        go_ret
        exact ⟨ret_iA_ (by rw [← HR.out]; unfold szA_; rw [if_neg (by have h1 := HM.out; have h2 := HNX.out; have h3 := HTT.out; have h4 := HLE.out; omega)]), B1.out⟩
    · obtain rfl : k = es.length := by omega
      have h1 := HM.out
      rw [List.take_of_length_le (Nat.le_refl _)] at h1
      have H1 := Lib.hid h1
      clear h1
      go_wp2
      go_ret
      exact ⟨ret_iA_ (by rw [← HR.out]; unfold szA_; have h1 := H1.out; rw [if_pos (by omega)]; omega), hb⟩

section
variable {H : Type} {enc : TypeId × Value → H} {w : World} {base : Nat} {spare : Nat → Bool} {held : Bool}
set_option maxRecDepth 100000 in
theorem atom_cells {n : Nat} {cs : List Value} {x : DataW H × List MemPlace} (h : DataW.trod enc Try.prog w base spare held n 146 cs = some x) (hl : cs.length = 3) :
    ∃ e : At, cs = e.cells ∧ e.ok := by
  obtain ⟨xs, m, _, _, _, hxl, hf⟩ := DataW.trod_struct Try.underlying146 h
  match cs, hl with
  | [c0, c1, c2], _ =>
    match xs, hxl with
    | [y0, y1, y2], _ =>
      have h0 : DataW.trod enc Try.prog w base spare held m 9 (List.take (Try.prog.cellsOf 9) [c0, c1, c2]) = some y0 := hf 0 _ rfl
      have h1 : DataW.trod enc Try.prog w base spare held m 9 (List.take (Try.prog.cellsOf 9) [c1, c2]) = some y1 := hf 1 _ rfl
      have h2 : DataW.trod enc Try.prog w base spare held m 9 (List.take (Try.prog.cellsOf 9) [c2]) = some y2 := hf 2 _ rfl
      rw [Try.cellsStr] at h0 h1 h2
      simp only [List.take] at h0 h1 h2
      obtain ⟨v0, e0, _, w0⟩ := DataW.trod_string Try.underlying9 h0
      obtain ⟨v1, e1, _, w1⟩ := DataW.trod_string Try.underlying9 h1
      obtain ⟨v2, e2, _, w2⟩ := DataW.trod_string Try.underlying9 h2
      simp at e0 e1 e2
      subst e0 e1 e2
      exact ⟨⟨v0, v1, v2⟩, rfl, w0, w1, w2⟩
theorem Try.cellsA_2 : Try.prog.cellsOf 146 = 3 := by kernel_rfl
theorem open_atomS {fuel : Nat} {v : Value} {x : DataW H × List MemPlace} (h : DataW.trod enc Try.prog w base spare held fuel 23 [v] = some x) :
    ∃ (A : Option Addr) (c : Nat) (es : List At), v = .slice A es.length c ∧ RdA_ w A es ∧ es.length ≤ c ∧ c ≤ maxLen ∧ ∀ e ∈ es, e.ok := by
  rcases open_slice Try.underlying23 h with ⟨hcs, _⟩ | ⟨a, len, cap, m, n, D, Pl, hcs, _, hl, hm, hmm, _, hi⟩
  · simp at hcs
    subst hcs
    exact ⟨none, 0, [], rfl, ⟨rfl, fun h => absurd h (by simp)⟩, Nat.le_refl _, by unfold maxLen; omega, by simp⟩
  · simp at hcs
    subst hcs
    have hlm : len ≤ m := by rw [hmm]; split <;> omega
    obtain ⟨es, hes, hp⟩ := list_of (α := At) (P := fun i e => (w.cell? (a.add (i * 3)) = some (.string e.f) ∧ w.cell? (a.add (i * 3 + 1)) = some (.string e.p) ∧ w.cell? (a.add (i * 3 + 2)) = some (.string e.t)) ∧ e.ok) len (fun i hil => by
      obtain ⟨cs', hc, ht⟩ := hi i (by omega)
      rw [Try.cellsA_2] at hc
      obtain ⟨_, hcl, hat⟩ := World.cells?_some hc
      obtain ⟨e, rfl, hok⟩ := atom_cells ht hcl
      have h0 := hat 0 (by omega)
      have h1 := hat 1 (by omega)
      have h2 := hat 2 (by omega)
      rw [add_of_add] at h0 h1 h2
      exact ⟨e, ⟨h0, h1, h2⟩, hok⟩)
    subst hes
    refine ⟨some a, cap, es, rfl, RdA_.of_cells fun i hi => (hp i hi).1, hl, hm, fun e he => ?_⟩
    obtain ⟨i, hi, rfl⟩ := List.getElem_of_mem he
    exact (hp i hi).2
end
end Go.Proofs.Ytlnphcongijfiaa
