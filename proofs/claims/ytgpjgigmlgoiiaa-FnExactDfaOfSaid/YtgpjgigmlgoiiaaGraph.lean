/- Graphs: copied, compared, sized. No conditions but the lengths. -/
import Derived.Test.YtgpjgigmlgoiiaaGMem
import Derived.Deep.RegionHeld3
namespace Go.Proofs.Ytgpjgigmlgoiiaa
open Go.RowKit

/-- What a call that makes a graph leaves. -/
def MadeG (w : World) (s : Int) (es : List Ed) (e : Ending) (w' : World) : Prop := ∃ A c, e = .returned (.agg #[.int .i64 s, .slice A es.length c]) ∧ w'.ownsRow w.heap.size 119 3 (.slice A es.length c) es.length (edCells es) ∧ Below w.heap.size w w'

set_option maxRecDepth 100000 in
set_option maxHeartbeats 1600000 in
theorem toGraph_any (s : Int) (A : Option Addr) (c : Nat) (es : List Ed) (w : World) (hx : RdE w A es) (hn : es.length ≤ 4294967296) :
    Calls Try.prog 20 #[.agg #[.int .i64 s, .slice A es.length c]] w (MadeG w s es) := by
  have HX := Lib.hid hx
  clear hx
  go_enter Try.func20, Try.ntmps20
  go_wp2_with fail
  refine (toEdgeS_any A c es _ (((HX.out.alloc _).alloc _).alloc _) hn).mono ?_
  rintro e w1 ⟨A1, c1, rfl, hown, hb⟩
  have HO := Lib.hid hown
  have HB := Lib.hid hb
  obtain ⟨hcl, hfr⟩ := bcell hb
  have hz : w.heap.size + 3 ≤ w1.heap.size := by have := hb.size; simp at this; omega
  have h1 : w1.cell? ⟨w.heap.size + 2, 0, none⟩ = some (.int .i64 s) := by rw [hcl _ _ (by simp)]; go_simp
  have h2 : w1.cell? ⟨w.heap.size + 2, 1, none⟩ = some (.slice none 0 0) := by rw [hcl _ _ (by simp)]; go_simp
  have h3 : w1.cell? ⟨w.heap.size + 1, 0, none⟩ = some (.int .i64 0) := by rw [hcl _ _ (by simp)]; go_simp
  have h4 : w1.cell? ⟨w.heap.size + 1, 1, none⟩ = some (.slice none 0 0) := by rw [hcl _ _ (by simp)]; go_simp
  have g2 : w1.frozen? ⟨w.heap.size + 2, 1, none⟩ = false := by rw [hfr _ _ (by simp)]; go_simp
  have g3 : w1.frozen? ⟨w.heap.size + 1, 0, none⟩ = false := by rw [hfr _ _ (by simp)]; go_simp
  have g4 : w1.frozen? ⟨w.heap.size + 1, 1, none⟩ = false := by rw [hfr _ _ (by simp)]; go_simp
  clear hown hb hcl hfr
  go_wp2
  refine bodyPost_ret (v := .agg #[.int .i64 s, .slice A1 es.length c1]) (by simp [results, Try.results20, go_sem, h3, h4]) rfl ⟨A1, c1, rfl, ?_, ?_⟩
  · exact own_mono (ownsRow_setCell_below (ownsRow_setCell_below (ownsRow_setCell_below HO.out (by simp) _) (by simp) _) (by simp) _) (by simp; omega)
  · have hb3 : Below w.heap.size w w1 := below_step ((((Below.refl w.heap.size w).alloc (Nat.le_refl _) _).alloc (by simp) _).alloc (by simp; omega) _) HB.out
    exact ((hb3.setCell (by simp; omega) _).setCell (by simp) _).setCell (by simp) _

set_option maxRecDepth 100000 in
theorem szEdgeS_any (A : Option Addr) (n c : Nat) (left : Int) (w : World) (hl : 0 ≤ left ∧ left ≤ 4611686018427387904) (hn : n ≤ 9223372036854775807) :
    Calls Try.prog 59 #[.slice A n c, .int .i64 left] w fun e w' => e = .returned (.int .i64 (if (n : Int) ≤ left then left - n else -1)) ∧ w = w' := by
  obtain ⟨h0, h1⟩ := hl
  by_cases h : (n : Int) ≤ left
  · rw [if_pos h]
    go_enter Try.func59, Try.ntmps59
    go_wp2
    go_ret
    exact ⟨rfl, rfl⟩
  · rw [if_neg h]
    go_enter Try.func59, Try.ntmps59
    go_wp2
    go_ret
    exact ⟨rfl, rfl⟩

set_option maxRecDepth 100000 in
theorem szGraph_any (s : Int) (A : Option Addr) (n c : Nat) (left : Int) (w : World) (hl : 0 ≤ left ∧ left ≤ 4611686018427387904) (hn : n ≤ 9223372036854775807) :
    Calls Try.prog 18 #[.agg #[.int .i64 s, .slice A n c], .int .i64 left] w fun e w' => e = .returned (.int .i64 (if (n : Int) ≤ left then left - n else -1)) ∧ Below w.heap.size w w' := by
  have C := Lib.hid (fun w => szEdgeS_any A n c left w hl hn)
  obtain ⟨h0, h1⟩ := hl
  by_cases h : (n : Int) ≤ left
  · rw [if_pos h] at C ⊢
    go_enter Try.func18, Try.ntmps18
    go_wp2_with (go_at_call 59; refine (C.out _).mono ?_; rintro e w1 ⟨rfl, rfl⟩)
    go_ret
    exact ⟨rfl, (Below.refl _ _).alloc (Nat.le_refl _) _⟩
  · rw [if_neg h] at C ⊢
    go_enter Try.func18, Try.ntmps18
    go_wp2_with (go_at_call 59; refine (C.out _).mono ?_; rintro e w1 ⟨rfl, rfl⟩)
    go_ret
    exact ⟨rfl, (Below.refl _ _).alloc (Nat.le_refl _) _⟩

/-- Two edges have the same parts. -/
def edEq (a b : Ed) : Bool := decide (a.f = b.f ∧ a.l = b.l ∧ a.t = b.t)
theorem ret_bo {a b : Bool} (h : a = b) : Ending.returned (.bool a) = .returned (.bool b) := by rw [h]
set_option maxRecDepth 100000 in
theorem eqEdge_any (a b : Ed) (w : World) : Calls Try.prog 90 #[a.val, b.val] w fun e w' => e = .returned (.bool (edEq a b)) ∧ Below w.heap.size w w' := by
  obtain ⟨af, al, at_⟩ := a
  obtain ⟨bf, bl, bt⟩ := b
  unfold Ed.val
  by_cases h1 : af = bf
  · by_cases h2 : al = bl
    · by_cases h3 : at_ = bt
      · subst h1 h2 h3
        rw [show edEq ⟨af, al, at_⟩ ⟨af, al, at_⟩ = true by simp [edEq]]
        go_enter Try.func90, Try.ntmps90
        go_wp2
        go_ret
        exact ⟨rfl, ((Below.refl w.heap.size w).alloc (Nat.le_refl _) _).alloc (by simp) _⟩
      · subst h1 h2
        rw [show edEq ⟨af, al, at_⟩ ⟨af, al, bt⟩ = false by simp [edEq, h3]]
        have b3 : (at_ != bt) = true := by rw [bne_iff_ne]; exact h3
        go_enter Try.func90, Try.ntmps90
        go_wp2
        go_ret
        exact ⟨rfl, ((Below.refl w.heap.size w).alloc (Nat.le_refl _) _).alloc (by simp) _⟩
    · subst h1
      rw [show edEq ⟨af, al, at_⟩ ⟨af, bl, bt⟩ = false by simp [edEq, h2]]
      have b2 : (al != bl) = true := by rw [bne_iff_ne]; exact h2
      go_enter Try.func90, Try.ntmps90
      go_wp2
      go_ret
      exact ⟨rfl, ((Below.refl w.heap.size w).alloc (Nat.le_refl _) _).alloc (by simp) _⟩
  · rw [show edEq ⟨af, al, at_⟩ ⟨bf, bl, bt⟩ = false by simp [edEq, h1]]
    have b1 : (af != bf) = true := by rw [bne_iff_ne]; exact h1
    go_enter Try.func90, Try.ntmps90
    go_wp2
    go_ret
    exact ⟨rfl, ((Below.refl w.heap.size w).alloc (Nat.le_refl _) _).alloc (by simp) _⟩
theorem edEq_iff {a b : Ed} : edEq a b = true ↔ a = b := by
  obtain ⟨af, al, at_⟩ := a
  obtain ⟨bf, bl, bt⟩ := b
  simp [edEq]

/-- Two lists of edges are the same. -/
noncomputable def eqE (xs ys : List Ed) : Bool := @decide (xs = ys) (Classical.propDecidable _)
theorem eqE_yes {xs ys : List Ed} (h : xs = ys) : eqE xs ys = true := by simp [eqE, h]
theorem eqE_no {xs ys : List Ed} (h : ¬ xs = ys) : eqE xs ys = false := by simp [eqE, h]

set_option maxRecDepth 100000 in
set_option maxHeartbeats 1600000 in
theorem eqEdgeS_any (A B : Option Addr) (c d : Nat) (xs ys : List Ed) (w : World) (hx : RdE w A xs) (hy : RdE w B ys) (hn : xs.length ≤ 4294967296) (hm : ys.length ≤ 4294967296) :
    Calls Try.prog 65 #[.slice A xs.length c, .slice B ys.length d] w fun e w' => e = .returned (.bool (eqE xs ys)) ∧ Below w.heap.size w w' := by
  have HX := Lib.hid hx
  have HY := Lib.hid hy
  clear hx hy
  by_cases hnm : xs.length = ys.length
  · have b1 : ((xs.length : Int) != (ys.length : Int)) = false := by rw [bne_eq_false_iff_eq]; omega
    have l1 : xs.length ≤ ys.length := by omega
    have l2 : ys.length ≤ xs.length := by omega
    have HN := Lib.hid hnm
    clear hnm
    go_enter Try.func65, Try.ntmps65
    go_wp2
    go_loopw [5] (fun i wr => ∃ k : Nat, k ≤ xs.length ∧ i = .int .i64 k ∧ Hid (xs.take k = ys.take k) ∧ Below w.heap.size w wr) (fun i _ => xs.length - (intOf i).toNat)
    case atStart => exact ⟨0, Nat.zero_le _, rfl, by show _ = _; simp, Below.refl _ _⟩
    case round =>
      obtain ⟨k, hk, rfl, HE, hb⟩ := hrel
      by_cases hlt : k < xs.length
      · have hlt2 : k < ys.length := by omega
        obtain ⟨b, o, rfl, c0, c1, c2⟩ := (RdE.below HX.out hb).at_ hlt
        obtain ⟨b', o', rfl, c0', c1', c2'⟩ := (RdE.below HY.out hb).at_ hlt2
        obtain ⟨x, hxx⟩ : ∃ x, xs[k] = x := ⟨_, rfl⟩
        obtain ⟨y, hyy⟩ : ∃ y, ys[k] = y := ⟨_, rfl⟩
        rw [hxx] at c0 c1 c2
        rw [hyy] at c0' c1' c2'
        have EX := Lib.hid hxx
        have EY := Lib.hid hyy
        clear hxx hyy
        have k0 : (0 : Int) ≤ (k : Int) := by omega
        have k1 : (k : Int) < (xs.length : Int) := by omega
        have k2 : (k : Int) < (ys.length : Int) := by omega
        have T := Lib.hid (fun w => eqEdge_any x y w)
        obtain ⟨xf, xl, xt⟩ := x
        obtain ⟨yf, yl, yt⟩ := y
        unfold Ed.val at T
        simp only at c0 c1 c2 c0' c1' c2'
        obtain ⟨r, hr⟩ : ∃ r, edEq ⟨xf, xl, xt⟩ ⟨yf, yl, yt⟩ = r := ⟨_, rfl⟩
        rw [hr] at T
        have HR := Lib.hid hr
        clear hr
        go_wp2_with fail
        go_region_held3 (fun w' => w'.cell? ⟨b, o + k * 3, none⟩ = some (.int .i64 xf) ∧ w'.cell? ⟨b, o + k * 3 + 1, none⟩ = some (.int .u8 xl) ∧ w'.cell? ⟨b, o + k * 3 + 2, none⟩ = some (.int .i64 xt) ∧
            w'.cell? ⟨b', o' + k * 3, none⟩ = some (.int .i64 yf) ∧ w'.cell? ⟨b', o' + k * 3 + 1, none⟩ = some (.int .u8 yl) ∧ w'.cell? ⟨b', o' + k * 3 + 2, none⟩ = some (.int .i64 yt) ∧ Below w.heap.size w w')
          ((first
            | (go_split_ands; exact ⟨held_step hbk (by assumption), held_step hbk (by assumption), held_step hbk (by assumption), held_step hbk (by assumption), held_step hbk (by assumption), held_step hbk (by assumption), below_step (by assumption) hbk⟩)
            | (exact ⟨by assumption, by assumption, by assumption, by assumption, by assumption, by assumption, Below.drew (by assumption)⟩)))
          ((go_at_call 90; refine (T.out _).mono ?_; rintro e w' ⟨rfl, hbk⟩))
        go_split_ands
        have hbn : Below w.heap.size w w' := by assumption
        cases r
        · go_wp2
          go_ret
          refine ⟨ret_bo (eqE_no fun h => ?_).symm, hbn⟩
          have h1 : xs[k] = ys[k] := by subst h; rfl
          rw [EX.out, EY.out] at h1
          have h2 := edEq_iff.2 h1
          rw [HR.out] at h2
          cases h2
        · go_wp2
          go_roundw
          case rel =>
            refine ⟨k + 1, by omega, by go_num, ?_, hbn⟩
            show _ = _
            rw [List.take_succ_eq_append_getElem hlt, List.take_succ_eq_append_getElem hlt2, HE.out, EX.out, EY.out, edEq_iff.1 HR.out]
          case measure => simp [intOf]; omega
      · obtain rfl : k = xs.length := by omega
        go_wp2
        go_ret
        refine ⟨ret_bo (eqE_yes ?_).symm, hb⟩
        have := HE.out
        rw [List.take_of_length_le (Nat.le_refl _), List.take_of_length_le l2] at this
        exact this
  · have b1 : ((xs.length : Int) != (ys.length : Int)) = true := by rw [bne_iff_ne]; omega
    have hne : eqE xs ys = false := eqE_no fun h => hnm (by rw [h])
    rw [hne]
    clear hne
    go_enter Try.func65, Try.ntmps65
    go_wp2
    go_ret
    exact ⟨rfl, Below.refl _ _⟩

set_option maxRecDepth 100000 in
theorem eqGraph_any (s t : Int) (A B : Option Addr) (c d : Nat) (xs ys : List Ed) (w : World) (hx : RdE w A xs) (hy : RdE w B ys) (hn : xs.length ≤ 4294967296) (hm : ys.length ≤ 4294967296) :
    Calls Try.prog 23 #[.agg #[.int .i64 s, .slice A xs.length c], .agg #[.int .i64 t, .slice B ys.length d]] w fun e w' => e = .returned (.bool (decide (s = t) && eqE xs ys)) ∧ Below w.heap.size w w' := by
  have C := Lib.hid (eqEdgeS_any A B c d xs ys ((w.alloc (.cells #[.int .i64 s, .slice A xs.length c] 45)).alloc (.cells #[.int .i64 t, .slice B ys.length d] 45)) ((hx.alloc _).alloc _) ((hy.alloc _).alloc _) hn hm)
  obtain ⟨r, hr⟩ : ∃ r, eqE xs ys = r := ⟨_, rfl⟩
  rw [hr] at C ⊢
  clear hx hy hr
  by_cases hst : s = t
  · subst hst
    rw [show (decide (s = s) && r) = r by simp]
    cases r
    all_goals
      go_enter Try.func23, Try.ntmps23
      go_wp2_with fail
      refine C.out.mono ?_
      rintro e w1 ⟨rfl, hb⟩
      go_wp2
      go_ret
      exact ⟨rfl, below_step (((Below.refl w.heap.size w).alloc (Nat.le_refl _) _).alloc (by simp) _) hb⟩
  · rw [show (decide (s = t) && r) = false by simp [hst]]
    have b1 : (s != t) = true := by rw [bne_iff_ne]; exact hst
    go_enter Try.func23, Try.ntmps23
    go_wp2
    go_ret
    exact ⟨rfl, ((Below.refl w.heap.size w).alloc (Nat.le_refl _) _).alloc (by simp) _⟩
end Go.Proofs.Ytgpjgigmlgoiiaa
