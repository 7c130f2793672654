/- Drawn numbers and drawn texts: l01Number, DrawVarText, l01Long, DrawHex. No conditions but the code's size. -/
import Derived.Test.YtgdilhkdeeodhaaDoorPickI
import Derived.Test.YtgdilhkdeeodhaaDoorApp
import Derived.Test.YtgdilhkdeeodhaaDoorBlk
namespace Go.Proofs.YtgdilhkdeeodhaaDoor
open Go.RowKit
set_option maxRecDepth 100000 in

theorem l01OnceN_any (w0 : World) (g : Nat) (w : World) (n : Int) (hn : n ≤ 2000000000) (hcur : CurAt w0 g w) (hB : Below w0.heap.size w0 w) :
    Calls Tryd.prog 23 #[.pointer (some ⟨g, 0, none⟩), .int .i64 n] w fun e w' => (∃ b : Bool, e = .returned (.bool b)) ∧ CurAt w0 g w' ∧ w.grownBy w' (some g) := by
  have C := Lib.hid (l01Below_any w0 g w n hn hcur hB)
  clear hcur
  go_enter Tryd.func23, Tryd.ntmps23
  go_wp2_with fail
  refine C.out.mono ?_
  rintro e w1 ⟨x, rfl, _, hc1, hg1⟩
  go_wp2
  go_ret
  exact ⟨⟨_, rfl⟩, hc1, hg1⟩

set_option maxRecDepth 100000 in
set_option maxHeartbeats 1600000 in
theorem l01Number_any (w0 : World) (g : Nat) (w : World) (hcur : CurAt w0 g w) (hB : Below w0.heap.size w0 w) :
    Calls Tryd.prog 19 #[.pointer (some ⟨g, 0, none⟩)] w (DrawnN w0 g w) := by
  have C := Lib.hid (l01Below_any w0 g w 4 (by omega) hcur hB)
  clear hcur
  go_enter Tryd.func19, Tryd.ntmps19
  go_wp2_with fail
  refine C.out.mono ?_
  rintro e w1 h
  obtain ⟨x, rfl, _, hc1, hg1, hb1⟩ := h.step hB
  clear h C
  by_cases h0 : x = 0
  · have q0 : (x == 0) = true := by rw [beq_iff_eq]; exact h0
    have P := Lib.hid (fun ws cs A => l01PickInt_any w0 g (w1.alloc (.cells cs 3)) (some ⟨w1.heap.size, 0, none⟩) 10 10 ws A (by omega) (hc1.below (below_alloc _ _)) (hb1.alloc hb1.size _) (fun ad e => by cases e; exact fun h => by have := hc1.lt; simp at h; omega))
    have R := Lib.hid (fun (cs : Array Value) (h : cs.size = 10) => Rd.new (n := 10) w1 cs 3 rfl h)
    have hg2 := only_alloc hg1
    have HG2 := Lib.hid hg2
    have HG1 := Lib.hid hg1
    clear h0 hc1 hb1 hg2 hg1
    go_wp2_with fail
    refine (P.out [-1, 0, 127, 128, 16383, 16384, 1000000000, 1000000001, 9223372036854775807, -9223372036854775808] _ (R.out _ rfl)).mono ?_
    rintro e w2 ⟨y, rfl, hc2, hg3⟩
    have hgg := only_trans (HG2.out _) hg3
    have HGG := Lib.hid hgg
    have HC2 := Lib.hid hc2
    clear hgg hc2 hg3
    go_wp2
    go_ret
    exact ⟨_, rfl, HC2.out, HGG.out⟩
  · have q0 : (x == 0) = false := by rw [beq_eq_false_iff_ne]; exact h0
    clear h0
    by_cases h1 : x = 1
    · have q1 : (x == 1) = true := by rw [beq_iff_eq]; exact h1
      clear h1
      go_wp2_with fail
      refine (l01Below_any w0 g w1 1000000000 (by omega) hc1 hb1).mono ?_
      rintro e w2 ⟨y, rfl, _, hc2, hg2⟩
      go_wp2
      go_ret
      exact ⟨_, rfl, hc2, only_trans hg1 hg2⟩
    · have q1 : (x == 1) = false := by rw [beq_eq_false_iff_ne]; exact h1
      clear h1
      go_wp2_with fail
      refine (l01Below_any w0 g w1 400 (by omega) hc1 hb1).mono ?_
      rintro e w2 ⟨y, rfl, _, hc2, hg2⟩
      go_wp2
      go_ret
      exact ⟨_, rfl, hc2, only_trans hg1 hg2⟩

/-- What the drawing of a number for a law leaves. -/
def SomeN (w : World) (e : Ending) (w' : World) : Prop := ∃ x : Int, e = .returned (.int .i64 x) ∧ Below w.heap.size w w'
set_option maxRecDepth 100000 in
theorem DrawVarText_any (A : Option Addr) (n c : Nat) (zs : List Int) (w : World) (hc : Code0 w A n zs) :
    Calls Tryd.prog 7 #[.slice A n c] w (SomeN w) := by
  have C := Lib.hid (l01New_any A n c zs w hc)
  clear hc
  go_enter Tryd.func7, Tryd.ntmps7
  go_wp2_with fail
  refine C.out.mono ?_
  rintro e w1 ⟨rfl, hc1, hb1⟩
  go_wp2_with fail
  refine (l01Number_any w _ w1 hc1 hb1).mono ?_
  rintro e w2 ⟨x, rfl, hc2, hg2⟩
  have hb2 := below_only hb1 hg2 hc2.ge
  go_wp2
  go_ret
  exact ⟨_, rfl, hb2⟩

/-- A string of some length. -/
def SomeT (w : World) (n : Nat) (e : Ending) (w' : World) : Prop := ∃ t : ByteArray, e = .returned (.string t) ∧ t.size ≤ n ∧ Below w.heap.size w w'
set_option maxRecDepth 100000 in
set_option maxHeartbeats 1600000 in
theorem l01Long_any (n : Nat) (x : Int) (w : World) (hn : n ≤ 1000000) :
    Calls Tryd.prog 24 #[.int .i64 n, .int .u8 x] w (SomeT w n) := by
  obtain ⟨i0, hi, hz0, hz1, hz2⟩ := info_parts Tryd.infoU8
  go_enter Tryd.func24, Tryd.ntmps24
  go_wp2_with (first
    | (at_make
       refine wpList_make_full _ rfl _ _ 22 rfl w.heap.size 5 i0 (.int .u8 0) 1 Tryd.underlying22 hi hz0 hz1 .i64 .i64 (n : Int) (n : Int) n rfl rfl rfl rfl (by rw [hz2]; omega) (by unfold maxLen; omega) (Nat.le_refl _) ?_
       intro w0 hown0 hg0
       have hb0 := (Below.refl w.heap.size w).grown hg0 (Nat.le_refl _) (fun g hg => by cases hg)))
  have H0 : Hid (∃ ys : List Int, ys.length = n ∧ w0.ownsRow w.heap.size 5 1 (.slice (some ⟨w.heap.size, 0, none⟩) n n) n (ys.map (Value.int .u8))) := ⟨List.replicate n 0, by simp, by
    have e : (madeCells (Value.int .u8 0).cells (n * 1)).toList = (List.replicate n (0 : Int)).map (Value.int .u8) := by
      rw [Nat.mul_one]
      apply List.ext_getElem
      · simp [madeCells, Value.cells]
      · intro i h1 h2
        simp [madeCells, Value.cells, Nat.mod_one]
    rw [← e]; exact hown0⟩
  have HB0 := Lib.hid hb0
  clear hown0 hg0 hb0
  go_loopw [6] (fun i wr => ∃ (k : Nat) (ys : List Int), k ≤ n ∧ i = .int .i64 k ∧ Hid (ys.length = n) ∧ wr.ownsRow w.heap.size 5 1 (.slice (some ⟨w.heap.size, 0, none⟩) n n) n (ys.map (Value.int .u8)) ∧ Below w.heap.size w wr) (fun i _ => n - (intOf i).toNat)
  case atStart =>
    obtain ⟨ys, h1, h2⟩ := H0.out
    exact ⟨0, ys, Nat.zero_le _, rfl, h1, h2, HB0.out⟩
  case round =>
    clear H0 HB0
    obtain ⟨k, ys, hk, rfl, HY, hown, hb⟩ := hrel
    by_cases hlt : k < n
    · have hco := hown.cellAt k (by have := HY.out; simp; omega)
      have hcs : ∃ u, wr.cell? ⟨w.heap.size, k, none⟩ = some u := by
        rw [hco, List.getElem?_eq_getElem (by have := HY.out; simp; omega)]
        exact ⟨_, rfl⟩
      obtain ⟨u, hu⟩ := hcs
      have hfo := hown.frozenAt k
      have hst := hown.stored k (.int .u8 x)
      rw [← List.map_set] at hst
      have HST := Lib.hid hst
      have HB := Lib.hid hb
      have k0 : (0 : Int) ≤ (k : Int) := by omega
      have k1 : (k : Int) < (n : Int) := by omega
      clear hco hst hown hb
      go_wp2
      go_roundw
      case rel => exact ⟨k + 1, ys.set k x, by omega, by go_num, by show _ = _; rw [List.length_set]; exact HY.out, HST.out.1, HB.out.grown HST.out.2 HB.out.size (fun g hg => by cases hg; exact Nat.le_refl _)⟩
      case measure => simp [intOf]; omega
    · obtain rfl : k = n := by omega
      have hy := HY.out
      have HB := Lib.hid hb
      obtain ⟨t, ht⟩ : ∃ t, strOfNums ys = t := ⟨_, rfl⟩
      have htl : t.size = k := by rw [← ht, strOfNums_size, hy]
      have hcv := run_string_own (P := Tryd.prog) wr 22 9 5 Tryd.underlying22 Tryd.underlying5 Tryd.underlying9 (zs := ys) hown
      rw [ht] at hcv
      have HTL := Lib.hid htl
      clear hb hown hy ht htl
      go_wp2
      go_ret
      exact ⟨_, rfl, Nat.le_of_eq HTL.out, HB.out⟩

set_option maxRecDepth 100000 in
set_option maxHeartbeats 1600000 in
theorem DrawHex_any (A : Option Addr) (n c : Nat) (zs : List Int) (w : World) (hc : Code0 w A n zs) :
    Calls Tryd.prog 12 #[.slice A n c] w (SomeT w 20001) := by
  have C := Lib.hid (l01New_any A n c zs w hc)
  clear hc
  go_enter Tryd.func12, Tryd.ntmps12
  go_wp2_with fail
  refine C.out.mono ?_
  rintro e w1 ⟨rfl, hc1, hb1⟩
  go_wp2_with fail
  refine (l01OnceN_any w _ w1 60 (by omega) hc1 hb1).mono ?_
  rintro e w2 ⟨⟨b, rfl⟩, hc2, hg2⟩
  have hb2 := below_only hb1 hg2 hc2.ge
  clear hc1 hb1 hg2 C
  cases b
  · go_wp2_with fail
    refine (l01Below_any w _ w2 30 (by omega) hc2 hb2).mono ?_
    rintro e w3 ⟨x, rfl, ⟨hx0, hx1⟩, hc3, hg3⟩
    have hb3 := below_only hb2 hg3 hc3.ge
    clear hc2 hb2 hg3
    go_wp2_with fail
    refine (l01Text_any w _ w3 x (by omega) hc3 hb3).mono ?_
    rintro e w4 ⟨ys, rfl, hl, hl2, hc4, hg4⟩
    have hb4 := below_only hb3 hg4 hc4.ge
    obtain ⟨t, ht⟩ : ∃ t, strOfNums ys = t := ⟨_, rfl⟩
    have htl : t.size ≤ 20001 := by rw [← ht, strOfNums_size]; omega
    rw [ht]
    clear ht hl
    go_wp2
    go_ret
    exact ⟨_, rfl, htl, hb4⟩
  · go_wp2_with fail
    refine (l01Below_any w _ w2 2 (by omega) hc2 hb2).mono ?_
    rintro e w3 ⟨x, rfl, ⟨hx0, hx1⟩, hc3, hg3⟩
    have hb3 := below_only hb2 hg3 hc3.ge
    obtain ⟨k, rfl⟩ : ∃ k : Nat, x = k := ⟨x.toNat, by omega⟩
    have hk : k ≤ 1 := by omega
    have e1 : (20000 : Int) + (k : Int) = ((20000 + k : Nat) : Int) := by omega
    have L := Lib.hid (l01Long_any (20000 + k) 200 w3 (by omega))
    obtain ⟨m, hm⟩ : ∃ m, 20000 + k = m := ⟨_, rfl⟩
    rw [hm] at e1 L
    have hm2 : m ≤ 20001 := by omega
    clear hc2 hb2 hg3 hc3 hm hx0 hx1
    go_wp2_with fail
    refine L.out.mono ?_
    rintro e w4 ⟨t, rfl, htl, hb4⟩
    have HB := Lib.hid (below_step hb3 hb4)
    clear hb3 hb4 e1
    go_wp2
    go_ret
    exact ⟨_, rfl, by omega, HB.out⟩
end Go.Proofs.YtgdilhkdeeodhaaDoor
