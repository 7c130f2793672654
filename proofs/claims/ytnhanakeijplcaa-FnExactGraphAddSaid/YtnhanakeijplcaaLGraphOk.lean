/- GraphOk: program and reference return the same, and leave their arguments as they were. No conditions. -/
import Derived.Test.YtnhanakeijplcaaOpenGraph
import Derived.Test.YtnhanakeijplcaaSGraphOk
import Derived.Deep.RegionHeld3
namespace Go.Proofs.Ytnhanakeijplcaa
open Go.RowKit

theorem RdE.own {w : World} {base : Nat} {e : TypeId} {A : Option Addr} {c : Nat} {es : List Ed} (h : w.ownsRow base e 3 (.slice A es.length c) es.length (edCells es)) : RdE w A es := Rd.of_own h
theorem eqGraph_same (s : Int) (A B : Option Addr) (c d : Nat) (xs : List Ed) (w : World) (hx : RdE w A xs) (hy : RdE w B xs) (hn : xs.length ≤ 4294967296) :
    Calls Try.prog 28 #[.agg #[.int .i64 s, .slice A xs.length c], .agg #[.int .i64 s, .slice B xs.length d]] w fun e w' => e = .returned (.bool true) ∧ Below w.heap.size w w' := by
  refine (eqGraph_any s s A B c d xs xs w hx hy hn hn).mono ?_
  rintro e w1 ⟨rfl, hb⟩
  exact ⟨by simp [eqE_yes (rfl : xs = xs)], hb⟩

set_option maxRecDepth 100000 in
set_option maxHeartbeats 3200000 in
theorem FnExactGraphOk_walk (w : World) (v0 : Value) (s : Int) (es : List Ed) (h0 : GrK w v0 s es) :
    Calls Try.prog 4 #[v0] w fun e w' => e = .returned (.bool true) ∧ Below w.heap.size w w' := by
  obtain ⟨_, A, c, rfl, hx, hlc, hcm, hok⟩ := h0
  have HL := Lib.hid (fun e he => (hok e he).2.1 : ∀ e ∈ es, 0 ≤ e.l ∧ e.l ≤ 255)
  have HX := Lib.hid hx
  clear hok hx
  unfold maxLen at hcm
  have hB0 : Below w.heap.size w (w.alloc (.cells #[.int .i64 s, .slice A es.length c] 41)) := (Below.refl _ _).alloc (Nat.le_refl _) _
  obtain ⟨r, hr⟩ : ∃ r, PP (GOk s es) = r := ⟨_, rfl⟩
  have HR := Lib.hid hr
  clear hr
  by_cases hb1 : (es.length : Int) ≤ 1048576
  · have S0 := Lib.hid (fun w => szGraph_any s A es.length c 1048576 w (by omega) (by omega))
    rw [if_pos hb1] at S0
    have hn : es.length ≤ 4294967296 := by omega
    have hq : decide ((1048576 : Int) - (es.length : Int) < 0) = false := decide_eq_false (by omega)
    go_enter Try.func4, Try.ntmps4
    go_wp2_with fail
    refine (S0.out _).mono ?_
    rintro e w1 ⟨rfl, k1⟩
    have hB1 := below_step hB0 k1
    have b0 : w1.cell? ⟨w.heap.size, 0, none⟩ = some (.int .i64 s) := held_step k1 (by go_keep)
    have b1 : w1.cell? ⟨w.heap.size, 1, none⟩ = some (.slice A es.length c) := held_step k1 (by go_keep)
    clear k1 hB0
    go_wp2_with fail
    refine (toGraph_any s A c es w1 (HX.out.below hB1) hn).mono ?_
    rintro e w2 ⟨A1, c1, rfl, o1, k2⟩
    have r1 := RdE.own o1
    clear o1
    go_wp2_with fail
    refine (spec_GraphOk_any s A1 c1 es w2 r1 hn HL.out).mono ?_
    rw [HR.out]
    rintro e w3 ⟨rfl, k3⟩
    have k23 := below_step k2 k3
    have hB3 := below_step hB1 k23
    have b0 := held_step k23 b0
    have b1 := held_step k23 b1
    clear k2 k3 k23 r1 hB1
    go_wp2_with fail
    refine (toGraph_any s A c es w3 (HX.out.below hB3) hn).mono ?_
    rintro e w4 ⟨A2, c2, rfl, o2, k4⟩
    have r2 := RdE.own o2
    have hB4 := below_step hB3 k4
    have b0 := held_step k4 b0
    have b1 := held_step k4 b1
    have hs4 : w.heap.size < w4.heap.size := World.block_lt_of_cell? w4 _ b0
    clear o2 k4 hB3
    have k5 : Below w4.heap.size w4 (w4.alloc (.cells #[.int .i64 s, .slice A2 es.length c2] 26)) := (Below.refl _ _).alloc (Nat.le_refl _) _
    go_wp2_with fail
    refine (impl_GraphOk_any s A2 c2 es _ (r2.below k5) hn HL.out).mono ?_
    rw [HR.out]
    rintro e w6 ⟨rfl, k6⟩
    have k56 := below_step k5 k6
    have x0 : w6.cell? ⟨w4.heap.size, 0, none⟩ = some (.int .i64 s) := held_step k6 (by go_keep)
    have x1 : w6.cell? ⟨w4.heap.size, 1, none⟩ = some (.slice A2 es.length c2) := held_step k6 (by go_keep)
    have hB6 := below_step hB4 k56
    have b0 := held_step k56 b0
    have b1 := held_step k56 b1
    have r2 := r2.below k56
    have rx := HX.out.below hB6
    have hB6 := hB6.drew
    clear k5 k6 k56 hB4 hs4 hq
    have hrr : (r != r) = false := by simp
    go_wp2_with fail
    go_region_held3 (fun w' => w'.cell? ⟨w.heap.size, 0, none⟩ = some (.int .i64 s) ∧ w'.cell? ⟨w.heap.size, 1, none⟩ = some (.slice A es.length c) ∧
        w'.cell? ⟨w4.heap.size, 0, none⟩ = some (.int .i64 s) ∧ w'.cell? ⟨w4.heap.size, 1, none⟩ = some (.slice A2 es.length c2) ∧ RdE w' A es ∧ RdE w' A2 es ∧ Below w.heap.size w w')
      ((first
        | (go_split_ands; exact ⟨held_step hbk (by assumption), held_step hbk (by assumption), held_step hbk (by assumption), held_step hbk (by assumption), RdE.below (by assumption) hbk, RdE.below (by assumption) hbk, below_step (by assumption) hbk⟩)
        | (exact ⟨b0, b1, x0, x1, rx, r2, hB6⟩)))
      ((first
        | (go_at_call 27; go_split_ands; refine (toGraph_any s A c es _ (by assumption) hn).mono ?_; rintro e w' ⟨A3, c3, rfl, o3, hbk⟩; have r3 := RdE.own o3; clear o3)
        | (go_at_call 28; go_split_ands; refine (eqGraph_same s A2 _ c2 _ es _ (by assumption) (by assumption) hn).mono ?_; rintro e w' ⟨rfl, hbk⟩)))
    go_split_ands
    go_wp2
    go_ret
    exact ⟨rfl, by assumption⟩
  · have S0 := Lib.hid (fun w => szGraph_any s A es.length c 1048576 w (by omega) (by omega))
    rw [if_neg hb1] at S0
    go_enter Try.func4, Try.ntmps4
    go_wp2_with fail
    refine (S0.out _).mono ?_
    rintro e w1 ⟨rfl, k1⟩
    go_wp2
    go_ret
    exact ⟨rfl, below_step hB0 k1⟩
end Go.Proofs.Ytnhanakeijplcaa
