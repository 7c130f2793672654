/- Arcs: copied, compared, sized, marked, held; opened. (Printed by a program of ours out of the texts on edges.) No conditions but the lengths. -/
import Derived.Test.YtgpjgigmlgoiiaaGraph
import Derived.Test.YtgpjgigmlgoiiaaMark
import Derived.Test.YtgpjgigmlgoiiaaOpenGraph
import Derived.Deep.RegionHeld3
namespace Go.Proofs.Ytgpjgigmlgoiiaa
open Go.ChangeShapes Go.WideShapes Go.ChangeAt Go.RowKit Go.Joins Go.Deep
set_option maxRecDepth 100000 in

theorem toArc_any (a : Ed) (w : World) : Calls Try.prog 84 #[a.val] w fun e w' => e = .returned a.val ∧ Below w.heap.size w w' := by
  obtain ⟨af, al, at_⟩ := a
  unfold Ed.val
  go_enter Try.func84, Try.ntmps84
  go_wp2
  refine bodyPost_ret (v := .agg #[.int .i64 af, .int .u8 al, .int .i64 at_]) (by simp [results, Try.results84, go_sem]) rfl ⟨rfl, ?_⟩
  exact (((Below.refl w.heap.size w).alloc (Nat.le_refl _) _).alloc (by simp) _).alloc (by simp; omega) _

theorem Try.infoArc : (Try.prog.info? 76).map (fun i => (i.zero, i.size, i.bytes)) = some (some (.agg #[.int .i64 0, .int .u8 0, .int .i64 0]), 3, 24) := by kernel_rfl

/-- What a call that makes a slice of edges leaves. -/
def MadeA (w : World) (es : List Ed) (e : Ending) (w' : World) : Prop := ∃ A c, e = .returned (.slice A es.length c) ∧ w'.ownsRow w.heap.size 76 3 (.slice A es.length c) es.length (edCells es) ∧ Below w.heap.size w w'

set_option maxRecDepth 100000 in
set_option maxHeartbeats 1600000 in
theorem toArcS_any (A : Option Addr) (c : Nat) (es : List Ed) (w : World) (hx : RdE w A es) (hn : es.length ≤ 4294967296) :
    Calls Try.prog 44 #[.slice A es.length c] w (MadeA w es) := by
  obtain ⟨i0, hi, hz0, hz1, hz2⟩ := info_parts Try.infoArc
  have HX := Lib.hid hx
  clear hx
  go_enter Try.func44, Try.ntmps44
  go_wp2_with (first
    | (at_make
       refine wpList_make_full _ rfl _ _ 27 rfl w.heap.size 76 i0 _ 3 Try.underlying27 hi hz0 hz1 .i64 .i64 (es.length : Int) (es.length : Int) es.length rfl rfl rfl rfl (by rw [hz2]; omega) (by unfold maxLen; omega) (Nat.le_refl _) ?_
       intro w0 hown0 hg0
       have hb0 := (Below.refl w.heap.size w).grown hg0 (Nat.le_refl _) (fun g hg => by cases hg)))
  go_loopw [4] (fun i wr => ∃ (k : Nat) (ys : List Value), k ≤ es.length ∧ i = .int .i64 k ∧ ys.length ≤ es.length * 3 ∧ es.length * 3 ≤ ys.length ∧ Hid (ys.take (k * 3) = edCells (es.take k)) ∧ wr.ownsRow w.heap.size 76 3 (.slice (some ⟨w.heap.size, 0, none⟩) es.length es.length) es.length ys ∧ Below w.heap.size w wr) (fun i _ => es.length - (intOf i).toNat)
  case atStart =>
    have := hown0.1
    exact ⟨0, _, Nat.zero_le _, rfl, by omega, by omega, rfl, hown0, hb0⟩
  case round =>
    obtain ⟨k, ys, hk, rfl, hy1, hy2, HT, hown, hb⟩ := hrel
    clear hown0 hg0 hb0
    by_cases hlt : k < es.length
    · obtain ⟨b, o, rfl, hc0, hc1, hc2⟩ := (RdE.below HX.out hb).at_ hlt
      obtain ⟨ed, hed⟩ : ∃ ed, es[k] = ed := ⟨_, rfl⟩
      rw [hed] at hc0 hc1 hc2
      have HED := Lib.hid hed
      clear hed
      have T := Lib.hid (fun w => toArc_any ed w)
      obtain ⟨ef, el, et⟩ := ed
      unfold Ed.val at T
      simp only at hc0 hc1 hc2
      go_wp2_with fail
      refine (T.out _).mono ?_
      rintro e w1 ⟨rfl, hb1⟩
      have hown1 := own_below hown hb1
      obtain ⟨u0, u1, u2, d0, d1, d2, f0, f1, f2⟩ := own3 hown1 hlt
      have hst := own3_stored hown1 k (.int .i64 ef) (.int .u8 el) (.int .i64 et)
      have HS := Lib.hid hst
      have HB := Lib.hid (below_step hb hb1)
      clear hst hown hown1 hb hb1 hc0 hc1 hc2 T
      go_wp2
      go_roundw
      case rel =>
        refine ⟨k + 1, _, by omega, by go_num, ?_, ?_, ?_, HS.out.1, HB.out.grown HS.out.2 HB.out.size (fun g hg => by cases hg; exact Nat.le_refl _)⟩
        · simp; omega
        · simp; omega
        · show _ = _
          rw [take_set3 ys k _ _ _ (by omega), HT.out, edCells_next hlt, HED.out]
      case measure => simp [intOf]; omega
    · obtain rfl : k = es.length := by omega
      have e1 : ys = edCells es := by
        have := HT.out
        rw [List.take_of_length_le (by omega), List.take_of_length_le (Nat.le_refl _)] at this
        exact this
      subst e1
      go_wp2
      go_ret
      exact ⟨_, _, rfl, hown, hb⟩

set_option maxRecDepth 100000 in
theorem szArcS_any (A : Option Addr) (n c : Nat) (left : Int) (w : World) (hl : 0 ≤ left ∧ left ≤ 4611686018427387904) (hn : n ≤ 9223372036854775807) :
    Calls Try.prog 40 #[.slice A n c, .int .i64 left] w fun e w' => e = .returned (.int .i64 (if (n : Int) ≤ left then left - n else -1)) ∧ w = w' := by
  obtain ⟨h0, h1⟩ := hl
  by_cases h : (n : Int) ≤ left
  · rw [if_pos h]
    go_enter Try.func40, Try.ntmps40
    go_wp2
    go_ret
    exact ⟨rfl, rfl⟩
  · rw [if_neg h]
    go_enter Try.func40, Try.ntmps40
    go_wp2
    go_ret
    exact ⟨rfl, rfl⟩

set_option maxRecDepth 100000 in
theorem eqArc_any (a b : Ed) (w : World) : Calls Try.prog 86 #[a.val, b.val] w fun e w' => e = .returned (.bool (edEq a b)) ∧ Below w.heap.size w w' := by
  obtain ⟨af, al, at_⟩ := a
  obtain ⟨bf, bl, bt⟩ := b
  unfold Ed.val
  by_cases h1 : af = bf
  · by_cases h2 : al = bl
    · by_cases h3 : at_ = bt
      · subst h1 h2 h3
        rw [show edEq ⟨af, al, at_⟩ ⟨af, al, at_⟩ = true by simp [edEq]]
        go_enter Try.func86, Try.ntmps86
        go_wp2
        go_ret
        exact ⟨rfl, ((Below.refl w.heap.size w).alloc (Nat.le_refl _) _).alloc (by simp) _⟩
      · subst h1 h2
        rw [show edEq ⟨af, al, at_⟩ ⟨af, al, bt⟩ = false by simp [edEq, h3]]
        have b3 : (at_ != bt) = true := by rw [bne_iff_ne]; exact h3
        go_enter Try.func86, Try.ntmps86
        go_wp2
        go_ret
        exact ⟨rfl, ((Below.refl w.heap.size w).alloc (Nat.le_refl _) _).alloc (by simp) _⟩
    · subst h1
      rw [show edEq ⟨af, al, at_⟩ ⟨af, bl, bt⟩ = false by simp [edEq, h2]]
      have b2 : (al != bl) = true := by rw [bne_iff_ne]; exact h2
      go_enter Try.func86, Try.ntmps86
      go_wp2
      go_ret
      exact ⟨rfl, ((Below.refl w.heap.size w).alloc (Nat.le_refl _) _).alloc (by simp) _⟩
  · rw [show edEq ⟨af, al, at_⟩ ⟨bf, bl, bt⟩ = false by simp [edEq, h1]]
    have b1 : (af != bf) = true := by rw [bne_iff_ne]; exact h1
    go_enter Try.func86, Try.ntmps86
    go_wp2
    go_ret
    exact ⟨rfl, ((Below.refl w.heap.size w).alloc (Nat.le_refl _) _).alloc (by simp) _⟩

set_option maxRecDepth 100000 in
set_option maxHeartbeats 1600000 in
theorem eqArcS_any (A B : Option Addr) (c d : Nat) (xs ys : List Ed) (w : World) (hx : RdE w A xs) (hy : RdE w B ys) (hn : xs.length ≤ 4294967296) (hm : ys.length ≤ 4294967296) :
    Calls Try.prog 50 #[.slice A xs.length c, .slice B ys.length d] w fun e w' => e = .returned (.bool (eqE xs ys)) ∧ Below w.heap.size w w' := by
  have HX := Lib.hid hx
  have HY := Lib.hid hy
  clear hx hy
  by_cases hnm : xs.length = ys.length
  · have b1 : ((xs.length : Int) != (ys.length : Int)) = false := by rw [bne_eq_false_iff_eq]; omega
    have l1 : xs.length ≤ ys.length := by omega
    have l2 : ys.length ≤ xs.length := by omega
    have HN := Lib.hid hnm
    clear hnm
    go_enter Try.func50, Try.ntmps50
    go_wp2
    go_loopw [5] (fun i wr => ∃ k : Nat, k ≤ xs.length ∧ i = .int .i64 k ∧ Hid (xs.take k = ys.take k) ∧ Below w.heap.size w wr) (fun i _ => xs.length - (intOf i).toNat)
    case atStart => exact ⟨0, Nat.zero_le _, rfl, by show _ = _; simp, Below.refl _ _⟩
    case round =>
      obtain ⟨k, hk, rfl, HE, hb⟩ := hrel
      by_cases hlt : k < xs.length
      · have hlt2 : k < ys.length := by omega
        obtain ⟨b, o, rfl, c0, c1, c2⟩ := (RdE.below HX.out hb).at_ hlt
        obtain ⟨b', o', rfl, c0', c1', c2'⟩ := (RdE.below HY.out hb).at_ hlt2
        obtain ⟨x, hxx⟩ : ∃ x, xs[k] = x := ⟨_, rfl⟩
        obtain ⟨y, hyy⟩ : ∃ y, ys[k] = y := ⟨_, rfl⟩
        rw [hxx] at c0 c1 c2
        rw [hyy] at c0' c1' c2'
        have EX := Lib.hid hxx
        have EY := Lib.hid hyy
        clear hxx hyy
        have k0 : (0 : Int) ≤ (k : Int) := by omega
        have k1 : (k : Int) < (xs.length : Int) := by omega
        have k2 : (k : Int) < (ys.length : Int) := by omega
        have T := Lib.hid (fun w => eqArc_any x y w)
        obtain ⟨xf, xl, xt⟩ := x
        obtain ⟨yf, yl, yt⟩ := y
        unfold Ed.val at T
        simp only at c0 c1 c2 c0' c1' c2'
        obtain ⟨r, hr⟩ : ∃ r, edEq ⟨xf, xl, xt⟩ ⟨yf, yl, yt⟩ = r := ⟨_, rfl⟩
        rw [hr] at T
        have HR := Lib.hid hr
        clear hr
        go_wp2_with fail
        go_region_held3 (fun w' => w'.cell? ⟨b, o + k * 3, none⟩ = some (.int .i64 xf) ∧ w'.cell? ⟨b, o + k * 3 + 1, none⟩ = some (.int .u8 xl) ∧ w'.cell? ⟨b, o + k * 3 + 2, none⟩ = some (.int .i64 xt) ∧
            w'.cell? ⟨b', o' + k * 3, none⟩ = some (.int .i64 yf) ∧ w'.cell? ⟨b', o' + k * 3 + 1, none⟩ = some (.int .u8 yl) ∧ w'.cell? ⟨b', o' + k * 3 + 2, none⟩ = some (.int .i64 yt) ∧ Below w.heap.size w w')
          ((first
            | (go_split_ands; exact ⟨held_step hbk (by assumption), held_step hbk (by assumption), held_step hbk (by assumption), held_step hbk (by assumption), held_step hbk (by assumption), held_step hbk (by assumption), below_step (by assumption) hbk⟩)
            | (exact ⟨by assumption, by assumption, by assumption, by assumption, by assumption, by assumption, Below.drew (by assumption)⟩)))
          ((go_at_call 86; refine (T.out _).mono ?_; rintro e w' ⟨rfl, hbk⟩))
        go_split_ands
        have hbn : Below w.heap.size w w' := by assumption
        cases r
        · go_wp2
          go_ret
          refine ⟨ret_bo (eqE_no fun h => ?_).symm, hbn⟩
          have h1 : xs[k] = ys[k] := by subst h; rfl
          rw [EX.out, EY.out] at h1
          have h2 := edEq_iff.2 h1
          rw [HR.out] at h2
          cases h2
        · go_wp2
          go_roundw
          case rel =>
            refine ⟨k + 1, by omega, by go_num, ?_, hbn⟩
            show _ = _
            rw [List.take_succ_eq_append_getElem hlt, List.take_succ_eq_append_getElem hlt2, HE.out, EX.out, EY.out, edEq_iff.1 HR.out]
          case measure => simp [intOf]; omega
      · obtain rfl : k = xs.length := by omega
        go_wp2
        go_ret
        refine ⟨ret_bo (eqE_yes ?_).symm, hb⟩
        have := HE.out
        rw [List.take_of_length_le (Nat.le_refl _), List.take_of_length_le l2] at this
        exact this
  · have b1 : ((xs.length : Int) != (ys.length : Int)) = true := by rw [bne_iff_ne]; omega
    have hne : eqE xs ys = false := eqE_no fun h => hnm (by rw [h])
    rw [hne]
    clear hne
    go_enter Try.func50, Try.ntmps50
    go_wp2
    go_ret
    exact ⟨rfl, Below.refl _ _⟩

/-- What a marking of a row of edges leaves. -/
def MarkedA (w : World) (base : Nat) (A : Option Addr) (n c : Nat) (k : Int) (e : Ending) (w' : World) : Prop :=
  e = .returned (.int .i64 (k + 3 * n)) ∧ w'.ownsRow base 76 3 (.slice A n c) n (edCells (marksE k n)) ∧ w.grownBy w' (Value.slice A n c).ownBlock

set_option maxRecDepth 100000 in
set_option maxHeartbeats 1600000 in
theorem markArcS_any (base : Nat) (A : Option Addr) (n c : Nat) (xs : List Value) (k : Int) (w : World) (hown : w.ownsRow base 76 3 (.slice A n c) n xs) (hk : 0 ≤ k ∧ k ≤ 4294967296) (hn : n ≤ 4294967296) :
    Calls Try.prog 52 #[.slice A n c, .int .i64 k] w (MarkedA w base A n c k) := by
  have H0 := Lib.hid hown
  clear hown
  obtain ⟨hk0, hk1⟩ := hk
  go_enter Try.func52, Try.ntmps52
  go_wp2
  go_loopw [1, 5] (fun v i wr => ∃ (j : Nat) (ys : List Value), j ≤ n ∧ v = .int .i64 (k + 3 * j) ∧ i = .int .i64 j ∧ ys.length ≤ n * 3 ∧ n * 3 ≤ ys.length ∧ Hid (ys.take (j * 3) = edCells (marksE k j)) ∧ wr.ownsRow base 76 3 (.slice A n c) n ys ∧ w.grownBy wr (Value.slice A n c).ownBlock) (fun _ i _ => n - (intOf i).toNat)
  case atStart =>
    have := H0.out.1
    exact ⟨0, xs, Nat.zero_le _, by simp, rfl, by omega, by omega, rfl, H0.out, World.grownBy.refl w _⟩
  case round =>
    obtain ⟨j, ys, hj, rfl, rfl, hy1, hy2, HT, hown, hb⟩ := hrel
    by_cases hlt : j < n
    · obtain ⟨g, cap, hv, _, _⟩ := hown.form (by omega)
      injection hv with e1 e2 e3
      subst e1 e3
      obtain ⟨u0, u1, u2, d0, d1, d2, f0, f1, f2⟩ := own3 hown hlt
      obtain ⟨z, hz⟩ : ∃ z, k + 3 * (j : Int) = z := ⟨_, rfl⟩
      have hz0 : 0 ≤ z := by omega
      have hz1 : z ≤ 17179869184 := by omega
      rw [hz]
      have HZ := Lib.hid hz
      clear hz
      have HS := Lib.hid (own3_stored hown j (.int .i64 z) (.int .u8 ((z + 1) % 256)) (.int .i64 (z + 1 + 1)))
      have HB := Lib.hid hb
      clear hown hb
      go_wp2
      go_roundw
      case rel =>
        refine ⟨j + 1, _, by omega, ?_, by go_num, ?_, ?_, ?_, HS.out.1, HB.out.trans HS.out.2⟩
        · have := HZ.out
          rw [← this]
          congr 1
          omega
        · simp; omega
        · simp; omega
        · show _ = _
          rw [take_set3 ys j _ _ _ (by omega), HT.out, marksE_succ, edCells_append]
          have := HZ.out
          simp [markE, edCells, this]
      case measure => simp [intOf]; omega
    · obtain rfl : j = n := by omega
      have e1 : ys = edCells (marksE k j) := by
        have := HT.out
        rw [List.take_of_length_le (by omega)] at this
        exact this
      subst e1
      have HO := Lib.hid hown
      have HB := Lib.hid hb
      clear hown hb
      go_wp2
      go_ret
      exact ⟨rfl, HO.out, HB.out⟩

/-- A marked row of edges reads as its marks. -/
theorem rdA_marks {w : World} {A : Option Addr} {n c base : Nat} {k : Int} (h : w.ownsRow base 76 3 (.slice A n c) n (edCells (marksE k n))) : RdE w A (marksE k n) := by
  have := Rd.of_own h
  unfold RdE
  rw [marksE_len]
  exact this

set_option maxRecDepth 100000 in
set_option maxHeartbeats 1600000 in
theorem heldArcS_any (A : Option Addr) (n c : Nat) (k : Int) (w : World) (hx : RdE w A (marksE k n)) (hk : 0 ≤ k ∧ k ≤ 4294967296) (hn : n ≤ 4294967296) :
    Calls Try.prog 54 #[.slice A n c, .int .i64 k] w fun e w' => e = .returned (.int .i64 (k + 3 * n)) ∧ w = w' := by
  have HX := Lib.hid hx
  clear hx
  obtain ⟨hk0, hk1⟩ := hk
  go_enter Try.func54, Try.ntmps54
  go_wp2
  go_loop [1, 5] (fun v i => ∃ (j : Nat), j ≤ n ∧ v = .int .i64 (k + 3 * j) ∧ i = .int .i64 j) (fun _ i => n - (intOf i).toNat)
  case atStart => exact ⟨0, Nat.zero_le _, by simp, rfl⟩
  case round =>
    obtain ⟨j, hj, rfl, rfl⟩ := hrel
    by_cases hlt : j < n
    · obtain ⟨b, o, rfl, c0, c1, c2⟩ := HX.out.at_ (k := j) (by rw [marksE_len]; exact hlt)
      rw [marksE_at] at c0 c1 c2
      unfold markE at c0 c1 c2
      simp only at c0 c1 c2
      obtain ⟨z, hz⟩ : ∃ z, k + 3 * (j : Int) = z := ⟨_, rfl⟩
      have hz0 : 0 ≤ z := by omega
      have hz1 : z ≤ 17179869184 := by omega
      rw [hz] at c0 c1 c2 ⊢
      have HZ := Lib.hid hz
      clear hz
      have n0 : (z != z) = false := by simp
      have n1 : ((z + 1) % 256 != (z + 1) % 256) = false := by simp
      have n2 : ((z + 1 + 1) != (z + 1 + 1)) = false := by simp
      go_wp2
      go_round
      case rel =>
        refine ⟨j + 1, by omega, ?_, by go_num⟩
        have := HZ.out
        rw [← this]
        congr 1
        omega
      case measure => simp [intOf]; omega
    · obtain rfl : j = n := by omega
      go_wp2
      go_ret
      exact ⟨rfl, rfl⟩

section

variable {H : Type} {enc : TypeId × Value → H} {w : World} {base : Nat} {spare : Nat → Bool} {held : Bool}

set_option maxRecDepth 100000 in
theorem arc_cells {n : Nat} {cs : List Value} {x : DataW H × List MemPlace} (h : DataW.trod enc Try.prog w base spare held n 117 cs = some x) (hl : cs.length = 3) :
    ∃ e : Ed, cs = [.int .i64 e.f, .int .u8 e.l, .int .i64 e.t] ∧ e.ok := by
  obtain ⟨xs, m, _, _, _, hxl, hf⟩ := DataW.trod_struct Try.underlying117 h
  match cs, hl with
  | [c0, c1, c2], _ =>
    match xs, hxl with
    | [y0, y1, y2], _ =>
      have h0 : DataW.trod enc Try.prog w base spare held m 3 (List.take (Try.prog.cellsOf 3) [c0, c1, c2]) = some y0 := hf 0 _ rfl
      have h1 : DataW.trod enc Try.prog w base spare held m 5 (List.take (Try.prog.cellsOf 5) [c1, c2]) = some y1 := hf 1 _ rfl
      have h2 : DataW.trod enc Try.prog w base spare held m 3 (List.take (Try.prog.cellsOf 3) [c2]) = some y2 := hf 2 _ rfl
      rw [Try.cellsInt] at h0 h2
      rw [Try.cellsU8] at h1
      simp only [List.take] at h0 h1 h2
      obtain ⟨a, e0, _, w0⟩ := DataW.trod_int Try.underlying3 h0
      obtain ⟨b, e1, _, w1⟩ := DataW.trod_int Try.underlying5 h1
      obtain ⟨c, e2, _, w2⟩ := DataW.trod_int Try.underlying3 h2
      simp at e0 e1 e2
      subst e0 e1 e2
      exact ⟨⟨a, b, c⟩, rfl, bounds_i64 w0, bounds_u8 w1, bounds_i64 w2⟩

theorem Try.cellsArc2 : Try.prog.cellsOf 117 = 3 := by kernel_rfl

theorem open_arcs {fuel : Nat} {v : Value} {x : DataW H × List MemPlace} (h : DataW.trod enc Try.prog w base spare held fuel 22 [v] = some x) :
    ∃ (A : Option Addr) (c : Nat) (es : List Ed), v = .slice A es.length c ∧ RdE w A es ∧ es.length ≤ c ∧ c ≤ maxLen ∧ ∀ e ∈ es, e.ok := by
  rcases open_slice Try.underlying22 h with ⟨hcs, _⟩ | ⟨a, len, cap, m, n, D, Pl, hcs, _, hl, hm, hmm, _, hi⟩
  · simp at hcs
    subst hcs
    exact ⟨none, 0, [], rfl, ⟨rfl, fun h => absurd h (by simp)⟩, Nat.le_refl _, by unfold maxLen; omega, by simp⟩
  · simp at hcs
    subst hcs
    have hlm : len ≤ m := by rw [hmm]; split <;> omega
    obtain ⟨es, hes, hp⟩ := list_of (α := Ed) (P := fun i e => (w.cell? (a.add (i * 3)) = some (.int .i64 e.f) ∧ w.cell? (a.add (i * 3 + 1)) = some (.int .u8 e.l) ∧ w.cell? (a.add (i * 3 + 2)) = some (.int .i64 e.t)) ∧ e.ok) len (fun i hil => by
      obtain ⟨cs', hc, ht⟩ := hi i (by omega)
      rw [Try.cellsArc2] at hc
      obtain ⟨_, hcl, hat⟩ := World.cells?_some hc
      obtain ⟨e, rfl, hok⟩ := arc_cells ht hcl
      have h0 := hat 0 (by omega)
      have h1 := hat 1 (by omega)
      have h2 := hat 2 (by omega)
      rw [add_of_add] at h0 h1 h2
      exact ⟨e, ⟨h0, h1, h2⟩, hok⟩)
    subst hes
    refine ⟨some a, cap, es, rfl, RdE.of_cells fun i hi => (hp i hi).1, hl, hm, fun e he => ?_⟩
    obtain ⟨i, hi, rfl⟩ := List.getElem_of_mem he
    exact (hp i hi).2

end
end Go.Proofs.Ytgpjgigmlgoiiaa
