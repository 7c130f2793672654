/- What is drawn for the laws on owners: a graph, two numbers. No conditions but the length of the code. -/
import Derived.Test.YtnhanakeijplcaaDrawG
import Derived.Test.YtnhanakeijplcaaIntS
namespace Go.Proofs.Ytnhanakeijplcaa
open Go.RowKit

theorem Code0.keep {w w' : World} {A : Option Addr} {n : Nat} {zs : List Int} (h : Code0 w A n zs) (hb : Below w.heap.size w w') : Code0 w' A n zs := ⟨Rd.below h.rd hb, h.le, h.bd⟩
/-- A drawn graph that is right. -/
def DrawnGr (w : World) (e : Ending) (w' : World) : Prop :=
  ∃ (s : Int) (A : Option Addr) (c : Nat) (es : List Ed), e = .returned (.agg #[.int .i64 s, .slice A es.length c]) ∧ GOk s es ∧ 1 ≤ es.length ∧ es.length ≤ 10 ∧ w'.ownsRow w.heap.size 31 3 (.slice A es.length c) es.length (edCells es) ∧ Below w.heap.size w w'

set_option maxRecDepth 100000 in
set_option maxHeartbeats 1600000 in
theorem DrawGraph_any (A : Option Addr) (n c : Nat) (zs : List Int) (w : World) (hc : Code0 w A n zs) :
    Calls Try.prog 16 #[.slice A n c] w (DrawnGr w) := by
  have k0 := below_alloc w (.cells #[.int .i64 0, .slice none 0 0] 26)
  have q0 := heap_alloc_new w (.cells #[.int .i64 0, .slice none 0 0] 26)
  have C := Lib.hid (l01New_any A n c zs _ (hc.keep k0))
  have Q0 := Lib.hid q0
  have K0 := Lib.hid k0
  clear hc q0 k0
  go_enter Try.func16, Try.ntmps16
  go_wp2_with fail
  refine C.out.mono ?_
  rintro e w1 ⟨rfl, hc1, hb1⟩
  have Q1 := Lib.hid (blk_below hb1 Q0.out)
  have hw1 := hb1.size
  clear C
  go_wp2_with fail
  refine (l04Graph_any _ _ w1 (by simpa using hc1) hb1).mono ?_
  rintro e w2 ⟨s, A2, c2, es, rfl, hok, h1, h10, hc2, own2, hg2⟩
  have q2 := (hg2.block _ (blk_lt Q1.out) (fun e => by injection e with e; simp at e)).trans Q1.out
  have d0 := blk_cell (o := 0) q2 rfl
  have d1 := blk_cell (o := 1) q2 rfl
  have f0 : w2.frozen? ⟨w.heap.size, 0, none⟩ = false := frozen_of_row w2 _ 0 _ _ q2
  have f1 : w2.frozen? ⟨w.heap.size, 1, none⟩ = false := frozen_of_row w2 _ 1 _ _ q2
  have hwl := blk_lt Q1.out
  have HOK := Lib.hid hok
  have B2 : Hid (Below w.heap.size w w2) := below_step K0.out (below_only hb1 hg2 (by simp))
  clear hc1 hc2 hb1 hok hg2 q2
  go_wp2
  refine bodyPost_ret (v := .agg #[.int .i64 s, .slice A2 es.length c2]) (by simp [results, Try.results16, go_sem, d0, d1]) rfl ⟨s, A2, c2, es, rfl, HOK.out, h1, h10, ?_, ?_⟩
  · exact own_mono (ownsRow_setCell_below (ownsRow_setCell_below own2 (a := ⟨w.heap.size, 0, none⟩) (by simp; omega) _) (a := ⟨w.heap.size, 1, none⟩) (by simp; omega) _) (by omega)
  · exact (B2.out.setCell (Nat.le_refl _) _).setCell (Nat.le_refl _) _

/-- What the drawing of a bool leaves. -/
def DrawnB (w0 : World) (g : Nat) (w : World) (e : Ending) (w' : World) : Prop := ∃ b : Bool, e = .returned (.bool b) ∧ CurAt w0 g w' ∧ w.grownBy w' (some g)
set_option maxRecDepth 100000 in
theorem l01Once_any (w0 : World) (g : Nat) (w : World) (n : Int) (hn : n ≤ 2000000000) (hcur : CurAt w0 g w) (hB : Below w0.heap.size w0 w) :
    Calls Try.prog 105 #[.pointer (some ⟨g, 0, none⟩), .int .i64 n] w (DrawnB w0 g w) := by
  have C := Lib.hid (l01Below_any w0 g w n hn hcur hB)
  clear hcur
  go_enter Try.func105, Try.ntmps105
  go_wp2_with fail
  refine C.out.mono ?_
  rintro e w1 ⟨x, rfl, _, hc1, hg1⟩
  go_wp2
  go_ret
  exact ⟨_, rfl, hc1, hg1⟩
/-- What the drawing of a number leaves. -/
def DrawnN (w0 : World) (g : Nat) (w : World) (e : Ending) (w' : World) : Prop := ∃ x : Int, e = .returned (.int .i64 x) ∧ CurAt w0 g w' ∧ w.grownBy w' (some g)
set_option maxRecDepth 100000 in
theorem l01PickInt_any (w0 : World) (g : Nat) (w : World) (A : Option Addr) (n c : Nat) (zs : List Int) (hx : RdI w A n zs) (hn : 1 ≤ n ∧ n ≤ 1000) (hcur : CurAt w0 g w) (hB : Below w0.heap.size w0 w) (hne : ∀ ad, A = some ad → ad.block ≠ g) :
    Calls Try.prog 106 #[.pointer (some ⟨g, 0, none⟩), .slice A n c] w (DrawnN w0 g w) := by
  obtain ⟨hn1, hn2⟩ := hn
  have C := Lib.hid (l01Below_any w0 g w n (by omega) hcur hB)
  have HX := Lib.hid hx
  have HNE := Lib.hid hne
  clear hcur hx hne
  go_enter Try.func106, Try.ntmps106
  go_wp2_with fail
  refine C.out.mono ?_
  rintro e w1 ⟨x, rfl, ⟨hx0, hx1⟩, hc1, hg1⟩
  obtain ⟨k, rfl⟩ : ∃ k : Nat, x = k := ⟨x.toNat, by omega⟩
  have hkn : k < n := by omega
  obtain ⟨ad, rfl, hcell⟩ := HX.out.at_ hkn
  have hcell1 := hg1.cell hcell (fun e => HNE.out ad rfl (by
    have : (ad.add k).block = ad.block := block_of_add ad k
    injection e with e
    rw [← this, e]))
  obtain ⟨z, hz⟩ : ∃ z, zs.getD k 0 = z := ⟨_, rfl⟩
  rw [hz] at hcell1
  clear hcell hz hx1
  have k0 : (0 : Int) ≤ (k : Int) := by omega
  have k1 : (k : Int) < (n : Int) := by omega
  go_wp2
  go_ret
  exact ⟨_, rfl, hc1, hg1⟩

set_option maxRecDepth 100000 in
set_option maxHeartbeats 1600000 in
theorem l01Place_any (w0 : World) (g : Nat) (w : World) (n : Int) (hn : 0 ≤ n ∧ n ≤ 1000000) (hcur : CurAt w0 g w) (hB : Below w0.heap.size w0 w) :
    Calls Try.prog 89 #[.pointer (some ⟨g, 0, none⟩), .int .i64 n] w (DrawnN w0 g w) := by
  obtain ⟨hn1, hn2⟩ := hn
  have C := Lib.hid (l01Once_any w0 g w 15 (by omega) hcur hB)
  have hgl := hcur.lt
  have HC := Lib.hid hcur
  clear hcur
  go_enter Try.func89, Try.ntmps89
  go_wp2_with fail
  refine C.out.mono ?_
  rintro e w1 ⟨r, rfl, hc1, hg1⟩
  have hb1 := below_only hB hg1 hc1.ge
  have hw1 := hg1.size
  clear C
  cases r
  · go_wp2_with fail
    refine (l01Below_any w0 g w1 n (by omega) hc1 hb1).mono ?_
    rintro e w2 ⟨x, rfl, _, hc2, hg2⟩
    go_wp2
    go_ret
    exact ⟨_, rfl, hc2, only_trans hg1 hg2⟩
  · have ka := below_alloc w1 (.cells #[.int .i64 (-1), .int .i64 n, .int .i64 (n + 1), .int .i64 9223372036854775807, .int .i64 (-9223372036854775808)] 3)
    have hrd : RdI (w1.alloc (.cells #[.int .i64 (-1), .int .i64 n, .int .i64 (n + 1), .int .i64 9223372036854775807, .int .i64 (-9223372036854775808)] 3)) (some ⟨w1.heap.size, 0, none⟩) 5 [-1, n, n + 1, 9223372036854775807, -9223372036854775808] :=
      Rd.new w1 #[.int .i64 (-1), .int .i64 n, .int .i64 (n + 1), .int .i64 9223372036854775807, .int .i64 (-9223372036854775808)] 3 rfl rfl
    have hc2 := hc1.below ka
    have hb2 := below_step hb1 ka
    have G2 := Lib.hid (only_below hg1 ka)
    have hc1l := hc1.lt
    have KA := Lib.hid ka
    clear hc1 hb1 hg1 ka
    go_wp2_with fail
    refine (l01PickInt_any w0 g _ _ 5 5 _ hrd (by omega) hc2 hb2 (fun ad h => by injection h with h; subst h; simp; omega)).mono ?_
    rintro e w2 ⟨x, rfl, hc3, hg3⟩
    go_wp2
    go_ret
    exact ⟨_, rfl, hc3, only_trans G2.out hg3⟩
/-- Two drawn numbers. -/
def DrawnTwo (w : World) (e : Ending) (w' : World) : Prop := ∃ a b : Int, e = .returned (.tuple #[.int .i64 a, .int .i64 b]) ∧ Below w.heap.size w w'
set_option maxRecDepth 100000 in
theorem DrawOwnerOf_any (A : Option Addr) (n c : Nat) (zs : List Int) (w : World) (hc : Code0 w A n zs) :
    Calls Try.prog 50 #[.slice A n c] w (DrawnTwo w) := by
  have C := Lib.hid (l01New_any A n c zs w hc)
  clear hc
  go_enter Try.func50, Try.ntmps50
  go_wp2_with fail
  refine C.out.mono ?_
  rintro e w1 ⟨rfl, hc1, hb1⟩
  go_wp2_with fail
  refine (l01Place_any w _ w1 11 (by omega) hc1 hb1).mono ?_
  rintro e w2 ⟨x, rfl, hc2, hg2⟩
  have hb2 := below_only hb1 hg2 hc2.ge
  clear hc1 hb1 hg2
  go_wp2_with fail
  refine (l01Place_any w _ w2 8 (by omega) hc2 hb2).mono ?_
  rintro e w3 ⟨y, rfl, hc3, hg3⟩
  have hb3 := below_only hb2 hg3 hc3.ge
  go_wp2
  go_ret2
  exact ⟨x, y, rfl, hb3⟩
end Go.Proofs.Ytnhanakeijplcaa
