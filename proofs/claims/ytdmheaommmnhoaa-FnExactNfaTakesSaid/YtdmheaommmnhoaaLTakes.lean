/- NfaTakes: program and reference return the same, and leave their arguments as they were. No conditions. -/
import Derived.Test.YtdmheaommmnhoaaSTakes
import Derived.Test.YtdmheaommmnhoaaNfaLaw
import Derived.Deep.RegionHeld3
namespace Go.Proofs.Ytdmheaommmnhoaa
open Go.RowKit
set_option maxRecDepth 100000 in

set_option maxHeartbeats 3200000 in
theorem FnExactNfaTakes_walk (w : World) (v0 : Value) (s : Int) (es : List Ed) (bs : List Bool) (h0 : NfK w v0 s es bs) (word : ByteArray) (hword : word.size ≤ maxLen) :
    Calls Try.prog 8 #[v0, .string word] w fun e w' => e = .returned (.bool true) ∧ Below w.heap.size w w' := by
  obtain ⟨_, A, c, B, d, rfl, hx, hy, hlc, hcm, hld, hdm, hok⟩ := h0
  have HL := Lib.hid (fun e he => (hok e he).2.1 : ∀ e ∈ es, 0 ≤ e.l ∧ e.l ≤ 255)
  have HX := Lib.hid hx
  have HY := Lib.hid hy
  clear hok hx hy
  unfold maxLen at hcm hdm
  have hB0 := below_alloc w (.cells #[.int .i64 s, .slice A es.length c, .slice B bs.length d] 38)
  have p1 := heap_alloc_new w (.cells #[.int .i64 s, .slice A es.length c, .slice B bs.length d] 38)
  obtain ⟨r, hr⟩ : ∃ r, tkB s es bs word = r := ⟨_, rfl⟩
  have HR := Lib.hid hr
  clear hr
  have S0 := Lib.hid (fun w => szNfa_any s A B es.length c bs.length d 1048576 w (by omega) (by omega) (by omega))
  by_cases hwb : 1048576 < word.size
  · unfold maxLen at hword
    have hwb' : (1048576 : Int) < (word.size : Int) := by omega
    go_enter Try.func8, Try.ntmps8
    go_wp2
    go_ret
    exact ⟨rfl, hB0⟩
  have hword2 := hword
  unfold maxLen at hword2
  have hwb' : (word.size : Int) ≤ 1048576 := by omega
  by_cases hb1 : (es.length : Int) + bs.length ≤ 1048576
  · rw [szN_yes hb1] at S0
    have hn : es.length ≤ 4294967296 := by omega
    have hm : bs.length ≤ 4294967296 := by omega
    have hq : decide ((1048576 : Int) - (es.length : Int) - (bs.length : Int) < 0) = false := decide_eq_false (by omega)
    go_enter Try.func8, Try.ntmps8
    go_wp2_with fail
    refine (S0.out _).mono ?_
    rintro e w1 ⟨rfl, k1⟩
    have hB1 := below_step hB0 k1
    have q1 := blk_below k1 p1
    have b0 := blk_cell (o := 0) q1 rfl
    have b1 := blk_cell (o := 1) q1 rfl
    have b2 := blk_cell (o := 2) q1 rfl
    clear k1 hB0 p1
    go_wp2_with fail
    refine (toNfa_any s A B c d es bs w1 (HX.out.below hB1) (HY.out.below hB1) hn hm).mono ?_
    rintro e w2 ⟨A1, c1, B1, d1, rfl, o1, o1b, k2⟩
    have r1 := RdE.own o1
    have r1b := RdB.own o1b
    clear o1 o1b
    go_wp2_with fail
    refine (spec_NfaTakes_any s A1 B1 c1 d1 es bs word w2 r1 r1b hn hm HL.out hword).mono ?_
    rw [HR.out]
    rintro e w3 ⟨rfl, k3⟩
    have k23 := below_step k2 k3
    have hB3 := below_step hB1 k23
    have q1 := blk_below k23 q1
    have b0 := blk_cell (o := 0) q1 rfl
    have b1 := blk_cell (o := 1) q1 rfl
    have b2 := blk_cell (o := 2) q1 rfl
    clear k2 k3 k23 r1 r1b hB1
    go_wp2_with fail
    refine (toNfa_any s A B c d es bs w3 (HX.out.below hB3) (HY.out.below hB3) hn hm).mono ?_
    rintro e w4 ⟨A2, c2, B2, d2, rfl, o2, o2b, k4⟩
    have ka := below_alloc w4 (.cells #[.int .i64 s, .slice A2 es.length c2, .slice B2 bs.length d2] 43)
    have k5 := below_step k4 ka
    have hB5 := below_step hB3 k5
    have q1 := blk_below k5 q1
    have r2 := (RdE.own o2).below ka
    have r2b := (RdB.own o2b).below ka
    have q8 := heap_alloc_new w4 (.cells #[.int .i64 s, .slice A2 es.length c2, .slice B2 bs.length d2] 43)
    obtain ⟨g8, hg8⟩ : ∃ g, w4.heap.size = g := ⟨_, rfl⟩
    obtain ⟨W5, hW5⟩ : ∃ W, w4.alloc (.cells #[.int .i64 s, .slice A2 es.length c2, .slice B2 bs.length d2] 43) = W := ⟨_, rfl⟩
    rw [hg8] at q8
    rw [hW5] at q8 q1 r2 r2b hB5
    have x0 := blk_cell (o := 0) q8 rfl
    have x1 := blk_cell (o := 1) q8 rfl
    have x2 := blk_cell (o := 2) q8 rfl
    clear o2 o2b k4 ka k5 hB3 b0 b1 b2
    go_wp2_with fail
    clear hW5 hg8
    refine (impl_NfaTakes_any s A2 B2 c2 d2 es bs word W5 r2 r2b hn hm HL.out hword).mono ?_
    rw [HR.out]
    rintro e w6 ⟨rfl, k6⟩
    have hB6 := below_step hB5 k6
    have q1 := blk_below k6 q1
    have q8 := blk_below k6 q8
    have r2 := r2.below k6
    have r2b := r2b.below k6
    have hrr : (!(r == r)) = false := by simp
    have hrr2 : (r != r) = false := by simp
    have MK := Lib.hid (fun (w' : World) (hB : Below w6.heap.size w6 w') => (⟨blk_cell (o := 0) (blk_below hB q1) rfl, blk_cell (o := 1) (blk_below hB q1) rfl, blk_cell (o := 2) (blk_below hB q1) rfl, blk_cell (o := 0) (blk_below hB q8) rfl, blk_cell (o := 1) (blk_below hB q8) rfl, blk_cell (o := 2) (blk_below hB q8) rfl, hB⟩ : w'.cell? ⟨w.heap.size, 0, none⟩ = some (.int .i64 s) ∧ w'.cell? ⟨w.heap.size, 1, none⟩ = some (.slice A es.length c) ∧ w'.cell? ⟨w.heap.size, 2, none⟩ = some (.slice B bs.length d) ∧ w'.cell? ⟨g8, 0, none⟩ = some (.int .i64 s) ∧ w'.cell? ⟨g8, 1, none⟩ = some (.slice A2 es.length c2) ∧ w'.cell? ⟨g8, 2, none⟩ = some (.slice B2 bs.length d2) ∧ Below w6.heap.size w6 w'))
    have R2 := Lib.hid r2
    have R2B := Lib.hid r2b
    have HB6 := Lib.hid hB6
    have B0' : Below w6.heap.size w6 w6.drew := (Below.refl _ _).drew
    clear hB5 k6 x0 x1 x2 q1 q8 r2 r2b hB6
    go_wp2_with fail
    go_region_held3 (fun w' => w'.cell? ⟨w.heap.size, 0, none⟩ = some (.int .i64 s) ∧ w'.cell? ⟨w.heap.size, 1, none⟩ = some (.slice A es.length c) ∧ w'.cell? ⟨w.heap.size, 2, none⟩ = some (.slice B bs.length d) ∧ w'.cell? ⟨g8, 0, none⟩ = some (.int .i64 s) ∧ w'.cell? ⟨g8, 1, none⟩ = some (.slice A2 es.length c2) ∧ w'.cell? ⟨g8, 2, none⟩ = some (.slice B2 bs.length d2) ∧ Below w6.heap.size w6 w')
      ((first
        | (exact MK.out _ B0')
        | assumption
        | (go_split_ands; exact MK.out _ (below_step (by assumption) hbk))))
      ((first
        | (go_at_call 28; go_split_ands; refine (toNfa_any s A B c d es bs _ (HX.out.below (below_step HB6.out (by assumption))) (HY.out.below (below_step HB6.out (by assumption))) hn hm).mono ?_; rintro e w' ⟨A3, c3, B3, d3, rfl, o3, o3b, hbk⟩; have r3 := RdE.own o3; have r3b := RdB.own o3b; clear o3 o3b)
        | (go_at_call 30; go_split_ands; refine (eqNfa_same s A2 B2 _ _ c2 d2 _ _ es bs _ (R2.out.below (by assumption)) r3 (R2B.out.below (by assumption)) r3b hn hm).mono ?_; rintro e w' ⟨rfl, hbk⟩)))
    go_split_ands
    have U : Below w6.heap.size w6 w' := by assumption
    go_wp2
    go_ret
    exact ⟨rfl, below_step HB6.out U⟩
  · rw [szN_no hb1] at S0
    go_enter Try.func8, Try.ntmps8
    go_wp2_with fail
    refine (S0.out _).mono ?_
    rintro e w1 ⟨rfl, k1⟩
    go_wp2
    go_ret
    exact ⟨rfl, below_step hB0 k1⟩
end Go.Proofs.Ytdmheaommmnhoaa
