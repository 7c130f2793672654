/- PathTakes: program and reference return the same, and leave their arguments as they were. No conditions. After StepOnly. -/
import Derived.Test.YtgpjgigmlgoiiaaSTakesP
import Derived.Deep.RegionHeld3
namespace Go.Proofs.Ytgpjgigmlgoiiaa
open Go.RowKit
set_option maxRecDepth 100000 in

set_option maxHeartbeats 3200000 in
theorem FnExactPathTakes_walk (w : World) (v0 : Value) (ps : List Pc) (h0 : PaK w v0 ps) (s : ByteArray) (_hs : s.size ≤ maxLen) :
    Calls Try.prog 6 #[v0, .string s] w fun e w' => e = .returned (.bool true) ∧ Below w.heap.size w w' := by
  obtain ⟨A, c, rfl, hx, hlc, hcm, hok⟩ := h0
  have HX := Lib.hid hx
  have hk0 : ∀ p ∈ ps, p.k.length ≤ 9223372036854775807 := fun p hp => by have := (hok p hp).2.2.1; unfold maxLen at this; omega
  clear hok
  unfold maxLen at hcm
  have hB0 := below_alloc w (.cells #[.slice A ps.length c] 54)
  have p1 := heap_alloc_new w (.cells #[.slice A ps.length c] 54)
  obtain ⟨r, hr⟩ : ∃ r, PP (PtOk s ps) = r := ⟨_, rfl⟩
  have HR := Lib.hid hr
  clear hr
  have S0 := Lib.hid (szPath_any A c ps 1048576 (w.alloc (.cells #[.slice A ps.length c] 54)) (hx.alloc _) (by omega) (by omega) hk0)
  clear hk0 hx
  by_cases hsz : s.size ≤ 1048576
  · have gsz : decide ((1048576 : Int) < (s.size : Int)) = false := decide_eq_false (by omega)
    by_cases hb1 : (ps.length : Int) + sumK ps ≤ 1048576
    · rw [szP_yes hb1] at S0
      have hn : ps.length ≤ 4294967296 := by omega
      have hpl : ps.length ≤ 1048576 := by omega
      have HK : Hid (∀ p ∈ ps, p.k.length ≤ 4294967296) := Lib.hid (fun p hp => by have := sumK_mem hp; omega)
      have hq : decide ((1048576 : Int) - (ps.length : Int) - (sumK ps : Int) < 0) = false := decide_eq_false (by omega)
      have HB1 := Lib.hid hb1
      clear hb1
      go_enter Try.func6, Try.ntmps6
      go_wp2_with fail
      refine S0.out.mono ?_
      rintro e w1 ⟨rfl, k1⟩
      have hB1 := below_step hB0 k1
      have q1 := blk_below k1 p1
      have b0 := blk_cell (o := 0) q1 rfl
      clear k1 hB0 p1
      go_wp2_with fail
      refine (toPath_any A c ps w1 (HX.out.keep hB1) hn HK.out).mono ?_
      rintro e w2 ⟨A1, c1, rfl, o1, k2⟩
      have r1 := o1.rd
      clear o1
      go_wp2_with fail
      refine (spec_PathTakes_any A1 c1 ps s w2 r1 hpl HK.out hsz).mono ?_
      rw [HR.out]
      rintro e w3 ⟨rfl, k3⟩
      have k23 := below_step k2 k3
      have hB3 := below_step hB1 k23
      have q1 := blk_below k23 q1
      have b0 := blk_cell (o := 0) q1 rfl
      clear k2 k3 k23 r1 hB1
      go_wp2_with fail
      refine (toPath_any A c ps w3 (HX.out.keep hB3) hn HK.out).mono ?_
      rintro e w4 ⟨A2, c2, rfl, o2, k4⟩
      have ka := below_alloc w4 (.cells #[.slice A2 ps.length c2] 59)
      have k5 := below_step k4 ka
      have hB5 := below_step hB3 k5
      have q1 := blk_below k5 q1
      have r2 := o2.rd.alloc (.cells #[.slice A2 ps.length c2] 59)
      have q8 := heap_alloc_new w4 (.cells #[.slice A2 ps.length c2] 59)
      obtain ⟨g8, hg8⟩ : ∃ g, w4.heap.size = g := ⟨_, rfl⟩
      obtain ⟨W5, hW5⟩ : ∃ W, w4.alloc (.cells #[.slice A2 ps.length c2] 59) = W := ⟨_, rfl⟩
      rw [hg8] at q8
      rw [hW5] at q8 q1 r2 hB5
      have x0 := blk_cell (o := 0) q8 rfl
      clear o2 k4 ka k5 hB3 b0
      go_wp2_with fail
      clear hW5 hg8
      refine (impl_PathTakes_any A2 c2 ps s W5 r2 hpl HK.out hsz).mono ?_
      rw [HR.out]
      rintro e w6 ⟨rfl, k6⟩
      have hB6 := below_step hB5 k6
      have q1 := blk_below k6 q1
      have q8 := blk_below k6 q8
      have r2 := r2.keep k6
      have hrr : (!(r == r)) = false := by simp
      have hrr2 : (r != r) = false := by simp
      have MK := Lib.hid (fun (w' : World) (hB : Below w6.heap.size w6 w') => (⟨blk_cell (o := 0) (blk_below hB q1) rfl, blk_cell (o := 0) (blk_below hB q8) rfl, hB⟩ : w'.cell? ⟨w.heap.size, 0, none⟩ = some (.slice A ps.length c) ∧ w'.cell? ⟨g8, 0, none⟩ = some (.slice A2 ps.length c2) ∧ Below w6.heap.size w6 w'))
      have R2 := Lib.hid r2
      have HB6 := Lib.hid hB6
      have B0' : Below w6.heap.size w6 w6.drew := (Below.refl _ _).drew
      have EQ := Lib.hid (fun (A3 : Option Addr) (c3 : Nat) (w' : World) (hB : Below w6.heap.size w6 w') (h : RdP w' A3 ps) => PP_yes (p := ps = ps) rfl ▸ eqPath_any A2 A3 c2 c3 ps ps w' (R2.out.keep hB) h hn HK.out)
      clear hB5 k6 x0 q1 q8 r2 hB6
      go_wp2_with fail
      go_region_held3 (fun w' => w'.cell? ⟨w.heap.size, 0, none⟩ = some (.slice A ps.length c) ∧ w'.cell? ⟨g8, 0, none⟩ = some (.slice A2 ps.length c2) ∧ Below w6.heap.size w6 w')
        ((first
          | (exact MK.out _ B0')
          | assumption
          | (go_split_ands; exact MK.out _ (below_step (by assumption) hbk))))
        ((first
          | (go_at_call 29; go_split_ands; refine (toPath_any A c ps _ (HX.out.keep (below_step HB6.out (by assumption))) hn HK.out).mono ?_; rintro e w' ⟨A3, c3, rfl, o3, hbk⟩; have r3 := o3.rd; clear o3)
          | (go_at_call 31; go_split_ands; refine (EQ.out _ _ _ (by assumption) r3).mono ?_; rintro e w' ⟨rfl, hbk⟩)))
      go_split_ands
      have U : Below w6.heap.size w6 w' := by assumption
      go_wp2
      go_ret
      exact ⟨rfl, below_step HB6.out U⟩
    · rw [szP_no hb1] at S0
      go_enter Try.func6, Try.ntmps6
      go_wp2_with fail
      refine S0.out.mono ?_
      rintro e w1 ⟨rfl, k1⟩
      go_wp2
      go_ret
      exact ⟨rfl, below_step hB0 k1⟩
  · have gsz : decide ((1048576 : Int) < (s.size : Int)) = true := decide_eq_true (by omega)
    clear S0
    go_enter Try.func6, Try.ntmps6
    go_wp2
    go_ret
    exact ⟨rfl, hB0⟩
end Go.Proofs.Ytgpjgigmlgoiiaa
