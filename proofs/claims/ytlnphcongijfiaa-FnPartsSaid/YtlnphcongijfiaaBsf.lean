/- slices.BinarySearchFunc at edges. Conditions: the labels' range, the size of a length. -/
import Derived.Test.YtlnphcongijfiaaEdOrd
import Derived.Test.YtlnphcongijfiaaBelowQ
import Derived.Test.YtlnphcongijfiaaGMem
namespace Go.Proofs.Ytlnphcongijfiaa
open Go.RowKit

/-- How many edges of the row are less than x, at the head; is x itself there. -/
def lessN (es : List Ed) (x : Ed) : Nat := (es.filter fun y => edLess y x).length
theorem edCmp_neg (a b : Ed) : decide (edCmp a b < 0) = edLess a b := edCmp_less a b

set_option maxRecDepth 100000 in
set_option maxHeartbeats 3200000 in
theorem BinarySearchFunc_any (A : Option Addr) (c : Nat) (es : List Ed) (x : Ed) (w : World) (hx : RdE w A es) (hn : es.length ≤ 1073741824) (hl : ∀ e ∈ es, 0 ≤ e.l ∧ e.l ≤ 255) (hxl : 0 ≤ x.l ∧ x.l ≤ 255) (ha : Asc es) :
    Calls Try.prog 114 #[.slice A es.length c, x.val, .func (.func 115) #[] #[]] w fun e w' =>
      ∃ (i : Nat) (b : Bool), e = .returned (.tuple #[.int .i64 i, .bool b]) ∧ i ≤ es.length ∧ (∀ t (ht : t < es.length), (t < i → edLess es[t] x = true) ∧ (i ≤ t → edLess es[t] x = false)) ∧ (b = true ↔ ∃ h : i < es.length, edCmp es[i] x = 0) ∧ Below w.heap.size w w' := by
  have HX := Lib.hid hx
  have HL := Lib.hid hl
  have HA := Lib.hid ha
  clear hx hl ha
  obtain ⟨af, al, at_⟩ := x
  unfold Ed.val
  have hB1 : Below w.heap.size w (w.alloc (.cells #[.int .i64 af, .int .u8 al, .int .i64 at_] 62)) := (Below.refl _ _).alloc (Nat.le_refl _) _
  go_enter Try.func114, Try.ntmps114
  go_wp2
  go_loopw [9, 10] (fun v i wr => ∃ (a b : Nat), a ≤ b ∧ b ≤ es.length ∧ v = .int .i64 a ∧ i = .int .i64 b ∧ Hid (∀ t (ht : t < es.length), (t < a → edLess es[t] ⟨af, al, at_⟩ = true) ∧ (b ≤ t → edLess es[t] ⟨af, al, at_⟩ = false)) ∧ wr.heap[w.heap.size]? = some (.cells #[.int .i64 af, .int .u8 al, .int .i64 at_] 62 (0, 0)) ∧ Below w.heap.size w wr) (fun v i _ => (intOf i).toNat - (intOf v).toNat)
  case atStart => exact ⟨0, es.length, Nat.zero_le _, Nat.le_refl _, rfl, rfl, Lib.hid (fun t ht => ⟨fun h => by omega, fun h => by omega⟩), heap_alloc_new _ _, hB1⟩
  case round =>
    obtain ⟨a, b, hab, hbn, rfl, rfl, HI, hbx, hb⟩ := hrel
    by_cases hlt : a < b
    · obtain ⟨h, hh⟩ : ∃ h : Nat, ((a : Int) + (b : Int)) / 2 = (h : Int) := ⟨((a : Int) + b).toNat / 2, by omega⟩
      have hah : a ≤ h := by omega
      have hhb : h < b := by omega
      have hhn : h < es.length := by omega
      have k0 : (0 : Int) ≤ (h : Int) := by omega
      have k1 : (h : Int) < (es.length : Int) := by omega
      obtain ⟨b2, o, rfl, c0, c1, c2⟩ := (RdE.below HX.out hb).at_ hhn
      have hel := HL.out _ (List.getElem_mem hhn)
      obtain ⟨y, hy⟩ : ∃ y, es[h] = y := ⟨_, rfl⟩
      rw [hy] at c0 c1 c2 hel
      have HY := Lib.hid hy
      clear hy
      have C := Lib.hid (fun w => compareEdges_any y ⟨af, al, at_⟩ hel hxl w)
      obtain ⟨r, hr⟩ : ∃ r, edCmp y ⟨af, al, at_⟩ = r := ⟨_, rfl⟩
      rw [hr] at C
      have HR := Lib.hid hr
      obtain ⟨yf, yl, yt⟩ := y
      unfold Ed.val at C
      simp only at c0 c1 c2
      have q0 := fun p => cellQ c0 p
      have q1 := fun p => cellQ c1 p
      have q2 := fun p => cellQ c2 p
      have x0 := fun p => cellQ (blk_cell (o := 0) hbx rfl) p
      have x1 := fun p => cellQ (blk_cell (o := 1) hbx rfl) p
      have x2 := fun p => cellQ (blk_cell (o := 2) hbx rfl) p
      clear c0 c1 c2 hr hel
      go_wp2_with fail
      refine wp_region_below (by kernel_rfl) (by kernel_rfl) ?_
      repeat (first
        | go_big_quiet_step ((go_at_call 115; exact Calls.below_of (C.out _)))
        | quiet_step ((go_at_call 115; exact Calls.below_of (C.out _))))
      refine wpQuiet_nil ?_
      intro _ hw'
      obtain ⟨⟨w5, kk⟩, hw''⟩ := hw'
      subst hw''
      have hb5 := below_step hb kk
      have hbx5 := blk_below kk hbx
      clear q0 q1 q2 x0 x1 x2
      have hless : edLess ⟨yf, yl, yt⟩ ⟨af, al, at_⟩ = decide (r < 0) := by rw [← HR.out]; exact (edCmp_less _ _).symm
      have HLS := Lib.hid hless
      clear hless
      by_cases hr0 : r < 0
      · have d0 : decide (r < 0) = true := decide_eq_true hr0
        go_wp2
        go_roundw
        case rel =>
          refine ⟨h + 1, b, by omega, hbn, by go_num, rfl, Lib.hid (fun t ht => ⟨fun h2 => ?_, (HI.out t ht).2⟩), hbx5, hb5⟩
          have hy : edLess es[h] ⟨af, al, at_⟩ = true := by rw [HY.out, HLS.out]; exact d0
          rcases Nat.lt_or_ge t h with h3 | h3
          · exact edLess_trans (List.pairwise_iff_getElem.1 HA.out t h ht hhn h3) hy
          · obtain rfl : t = h := by omega
            exact hy
        case measure => simp [intOf]; omega
      · have d0 : decide (r < 0) = false := decide_eq_false hr0
        go_wp2
        go_roundw
        case rel =>
          refine ⟨a, h, hah, by omega, rfl, by go_num, Lib.hid (fun t ht => ⟨(HI.out t ht).1, fun h2 => ?_⟩), hbx5, hb5⟩
          have hy : edLess es[h] ⟨af, al, at_⟩ = false := by rw [HY.out, HLS.out]; exact d0
          rcases Nat.lt_or_ge h t with h3 | h3
          · cases h4 : edLess es[t] ⟨af, al, at_⟩ with
            | false => rfl
            | true => rw [edLess_trans (List.pairwise_iff_getElem.1 HA.out h t hhn ht h3) h4] at hy; cases hy
          · obtain rfl : t = h := by omega
            exact hy
        case measure => simp [intOf]; omega
    · obtain rfl : a = b := by omega
      have x0 := fun p => cellQ (blk_cell (o := 0) hbx rfl) p
      have x1 := fun p => cellQ (blk_cell (o := 1) hbx rfl) p
      have x2 := fun p => cellQ (blk_cell (o := 2) hbx rfl) p
      by_cases hhn : a < es.length
      · have k0 : (0 : Int) ≤ (a : Int) := by omega
        have k1 : (a : Int) < (es.length : Int) := by omega
        have k2 : decide ((a : Int) < (es.length : Int)) = true := decide_eq_true k1
        have k3 : decide (a < es.length) = true := decide_eq_true hhn
        obtain ⟨b2, o, rfl, c0, c1, c2⟩ := (RdE.below HX.out hb).at_ hhn
        have hel := HL.out _ (List.getElem_mem hhn)
        obtain ⟨y, hy⟩ : ∃ y, es[a] = y := ⟨_, rfl⟩
        rw [hy] at c0 c1 c2 hel
        have HY := Lib.hid hy
        clear hy
        have C := Lib.hid (fun w => compareEdges_any y ⟨af, al, at_⟩ hel hxl w)
        obtain ⟨r, hr⟩ : ∃ r, edCmp y ⟨af, al, at_⟩ = r := ⟨_, rfl⟩
        rw [hr] at C
        have HR := Lib.hid hr
        obtain ⟨yf, yl, yt⟩ := y
        unfold Ed.val at C
        simp only at c0 c1 c2
        have q0 := fun p => cellQ c0 p
        have q1 := fun p => cellQ c1 p
        have q2 := fun p => cellQ c2 p
        clear c0 c1 c2 hr hel
        go_wp2_with fail
        refine wp_region_below (by kernel_rfl) (by kernel_rfl) ?_
        repeat (first
          | go_big_quiet_step ((go_at_call 115; exact Calls.below_of (C.out _)))
          | quiet_step ((go_at_call 115; exact Calls.below_of (C.out _))))
        refine wpQuiet_nil ?_
        intro _ hw'
        obtain ⟨⟨w5, kk⟩, hw''⟩ := hw'
        subst hw''
        have hb5 := below_step hb kk
        clear q0 q1 q2 x0 x1 x2
        go_wp2
        go_ret2
        refine ⟨a, decide (r = 0), by simp [BEq.beq], by omega, HI.out, ?_, hb5⟩
        rw [decide_eq_true_eq, ← HR.out, ← HY.out]
        exact ⟨fun h => ⟨hhn, h⟩, fun ⟨_, h⟩ => h⟩
      · have k2 : decide ((a : Int) < (es.length : Int)) = false := decide_eq_false (by omega)
        have k3 : decide (a < es.length) = false := decide_eq_false hhn
        go_wp2_with fail
        refine wp_region_below (by kernel_rfl) (by kernel_rfl) ?_
        repeat (first
          | go_big_quiet_step (fail)
          | quiet_step (fail))
        refine wpQuiet_nil ?_
        intro _ hw'
        obtain ⟨⟨w5, kk⟩, hw''⟩ := hw'
        subst hw''
        have hb5 := below_step hb kk
        clear x0 x1 x2
        go_wp2
        go_ret2
        exact ⟨a, false, rfl, by omega, HI.out, ⟨fun h => (by cases h), fun ⟨h, _⟩ => absurd h hhn⟩, hb5⟩
end Go.Proofs.Ytlnphcongijfiaa
