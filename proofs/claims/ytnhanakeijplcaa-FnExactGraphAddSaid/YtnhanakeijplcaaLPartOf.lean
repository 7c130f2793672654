/- PartOf: program and reference return the same, leave their arguments as they were, and what is returned is the caller's own. No conditions. -/
import Derived.Test.YtnhanakeijplcaaLOwned
import Derived.Test.YtnhanakeijplcaaPartOf
namespace Go.Proofs.Ytnhanakeijplcaa
open Go.RowKit

theorem partL_len (s : Int) (es : List Ed) (wk n : Int) : (partL s es wk n).length ≤ es.length := by
  unfold partL
  split
  · exact List.length_filter_le _ _
  · simp

set_option maxRecDepth 100000 in
set_option maxHeartbeats 6400000 in
theorem FnExactPartOf_walk (w : World) (v0 : Value) (s : Int) (es : List Ed) (h0 : GrK w v0 s es) (wk : Int) (_hwk : (Lit.int .i64 wk).wf = true) (n : Int) (_hnn : (Lit.int .i64 n).wf = true) :
    Calls Try.prog 12 #[v0, .int .i64 wk, .int .i64 n] w fun e w' => e = .returned (.bool true) ∧ Below w.heap.size w w' := by
  obtain ⟨_, A, c, rfl, hx, hlc, hcm, hok⟩ := h0
  have HL := Lib.hid (fun e he => (hok e he).2.1 : ∀ e ∈ es, 0 ≤ e.l ∧ e.l ≤ 255)
  have HX := Lib.hid hx
  clear hok hx _hwk _hnn
  unfold maxLen at hcm
  have hB0 : Below w.heap.size w (w.alloc (.cells #[.int .i64 s, .slice A es.length c] 41)) := (Below.refl _ _).alloc (Nat.le_refl _) _
  obtain ⟨zs, hzs⟩ : ∃ zs, partL s es wk n = zs := ⟨_, rfl⟩
  have hzl := partL_len s es wk n
  rw [hzs] at hzl
  have HZ := Lib.hid hzs
  clear hzs
  by_cases hb1 : (es.length : Int) ≤ 1048576
  · have S0 := Lib.hid (fun w => szGraph_any s A es.length c 1048576 w (by omega) (by omega))
    rw [if_pos hb1] at S0
    have hn : es.length ≤ 4294967296 := by omega
    have hq : decide ((1048576 : Int) - (es.length : Int) < 0) = false := decide_eq_false (by omega)
    go_enter Try.func12, Try.ntmps12
    go_wp2_with fail
    refine (S0.out _).mono ?_
    rintro e w1 ⟨rfl, k1⟩
    have hB1 := below_step hB0 k1
    have b0 : w1.cell? ⟨w.heap.size, 0, none⟩ = some (.int .i64 s) := held_step k1 (by go_keep)
    have b1 : w1.cell? ⟨w.heap.size, 1, none⟩ = some (.slice A es.length c) := held_step k1 (by go_keep)
    clear k1 hB0
    go_wp2_with fail
    refine (toGraph_any s A c es w1 (HX.out.below hB1) hn).mono ?_
    rintro e w2 ⟨A1, c1, rfl, o1, k2⟩
    have r1 := RdE.own o1
    clear o1
    go_wp2_with fail
    refine (spec_PartOf_any s A1 c1 es wk n w2 r1 hn HL.out).mono ?_
    rw [HZ.out]
    rintro e w3 ⟨B0, d0, rfl, oB, k3⟩
    have k23 := below_step k2 k3
    have hB3 := below_step hB1 k23
    have b0 := held_step k23 b0
    have b1 := held_step k23 b1
    have kB : Below w3.heap.size w3 (w3.alloc (.cells #[.int .i64 s, .slice B0 zs.length d0] 26)) := (Below.refl _ _).alloc (Nat.le_refl _) _
    have rB := (RdE.own oB).below kB
    have b0 := held_step kB b0
    have b1 := held_step kB b1
    have hB3 := below_step hB3 kB
    have y0 : (w3.alloc (.cells #[.int .i64 s, .slice B0 zs.length d0] 26)).cell? ⟨w3.heap.size, 0, none⟩ = some (.int .i64 s) := by go_keep
    have y1 : (w3.alloc (.cells #[.int .i64 s, .slice B0 zs.length d0] 26)).cell? ⟨w3.heap.size, 1, none⟩ = some (.slice B0 zs.length d0) := by go_keep
    have hW : w3.heap.size < (w3.alloc (.cells #[.int .i64 s, .slice B0 zs.length d0] 26)).heap.size := by simp
    obtain ⟨g8, hg8⟩ : ∃ g, w3.heap.size = g := ⟨_, rfl⟩
    obtain ⟨W3, hW3⟩ : ∃ W, w3.alloc (.cells #[.int .i64 s, .slice B0 zs.length d0] 26) = W := ⟨_, rfl⟩
    rw [hW3] at rB b0 b1 hB3 y0 y1 hW
    rw [hg8] at y0 y1 hW
    clear k2 k3 k23 r1 hB1 oB kB
    go_wp2_with fail
    clear hW3 hg8
    refine (toGraph_any s A c es W3 (HX.out.below hB3) hn).mono ?_
    rintro e w4 ⟨A2, c2, rfl, o2, T4⟩
    have k5 : Below w4.heap.size w4 (w4.alloc (.cells #[.int .i64 s, .slice A2 es.length c2] 26)) := (Below.refl _ _).alloc (Nat.le_refl _) _
    go_wp2_with fail
    refine (impl_PartOf_any s A2 c2 es wk n _ ((RdE.own o2).below k5) hn HL.out).mono ?_
    rw [HZ.out]
    rintro e w6 ⟨B1, d1, rfl, o3, k6⟩
    have k56 := below_step k5 k6
    have x0 : w6.cell? ⟨w4.heap.size, 0, none⟩ = some (.int .i64 s) := held_step k6 (by go_keep)
    have x1 : w6.cell? ⟨w4.heap.size, 1, none⟩ = some (.slice A2 es.length c2) := held_step k6 (by go_keep)
    have T6 := below_step T4 k56
    have o26 := own_below o2 k56
    have hle : w4.heap.size ≤ (w4.alloc (.cells #[.int .i64 s, .slice A2 es.length c2] 26)).heap.size := by simp
    obtain ⟨b5, hb5⟩ : ∃ b, (w4.alloc (.cells #[.int .i64 s, .slice A2 es.length c2] 26)).heap.size = b := ⟨_, rfl⟩
    rw [hb5] at o3 hle
    have hw36 := T6.size
    have hw46 := k56.size
    have hw34 := T4.size
    have hw56 := k6.size
    rw [hb5] at hw56
    clear k5 k6 k56 T4 hb5
    have kg : Below w6.heap.size w6 (w6.alloc (.cells #[.int .i64 s, .slice B1 zs.length d1] 26)) := (Below.refl _ _).alloc (Nat.le_refl _) _
    have z0 : (w6.alloc (.cells #[.int .i64 s, .slice B1 zs.length d1] 26)).cell? ⟨w6.heap.size, 0, none⟩ = some (.int .i64 s) := by go_keep
    have z1 : (w6.alloc (.cells #[.int .i64 s, .slice B1 zs.length d1] 26)).cell? ⟨w6.heap.size, 1, none⟩ = some (.slice B1 zs.length d1) := by go_keep
    obtain ⟨g6, hg6⟩ : ∃ g, w6.heap.size = g := ⟨_, rfl⟩
    have T6 := below_step T6 kg
    have o26 := own_below o26 kg
    have o36 := own_below o3 kg
    have x0 := held_step kg x0
    have x1 := held_step kg x1
    obtain ⟨W6, hW6⟩ : ∃ W, w6.alloc (.cells #[.int .i64 s, .slice B1 zs.length d1] 26) = W := ⟨_, rfl⟩
    have o3lt : ∀ r, (Value.slice B1 zs.length d1).ownBlock = some r → r < g6 := fun r hr => by rw [← hg6]; exact (o3.lt r hr).2
    have o2lt : ∀ r, (Value.slice A2 es.length c2).ownBlock = some r → r < g6 := fun r hr => by have := (o2.lt r hr).2; omega
    rw [hW6] at z0 z1 T6 o26 o36 x0 x1
    rw [hg6] at z0 z1
    have y0 := held_step T6 y0
    have y1 := held_step T6 y1
    clear kg o3
    go_wp2_with fail
    clear hW6 hg6
    refine (eqGraph_same s B1 B0 d1 d0 zs W6 (RdE.own o36) (rB.below T6) (by omega)).mono ?_
    rintro e w7 ⟨rfl, k7⟩
    have T7 := below_step T6 k7
    have o27 := own_below o26 k7
    have o37 := own_below o36 k7
    have x0 := held_step k7 x0
    have x1 := held_step k7 x1
    have z0 := held_step k7 z0
    have z1 := held_step k7 z1
    have b0 := held_step T7 b0
    have b1 := held_step T7 b1
    have rx := HX.out.below (below_step hB3 T7)
    have r2 := RdE.own o27
    have hB7 : Below w7.heap.size w7 w7.drew := (Below.refl _ _).drew
    clear T6 k7 o26 o36
    go_wp2_with fail
    go_region_held3 (fun w' => w'.cell? ⟨w.heap.size, 0, none⟩ = some (.int .i64 s) ∧ w'.cell? ⟨w.heap.size, 1, none⟩ = some (.slice A es.length c) ∧
        w'.cell? ⟨w4.heap.size, 0, none⟩ = some (.int .i64 s) ∧ w'.cell? ⟨w4.heap.size, 1, none⟩ = some (.slice A2 es.length c2) ∧ RdE w' A es ∧ RdE w' A2 es ∧ Below w7.heap.size w7 w')
      ((first
        | (go_split_ands; exact ⟨held_step hbk (by assumption), held_step hbk (by assumption), held_step hbk (by assumption), held_step hbk (by assumption), RdE.below (by assumption) hbk, RdE.below (by assumption) hbk, below_step (by assumption) hbk⟩)
        | (exact ⟨b0, b1, x0, x1, rx, r2, hB7⟩)))
      ((first
        | (go_at_call 27; go_split_ands; refine (toGraph_any s A c es _ (by assumption) hn).mono ?_; rintro e w' ⟨A3, c3, rfl, o3, hbk⟩; have r3 := RdE.own o3; clear o3)
        | (go_at_call 28; go_split_ands; refine (eqGraph_same s A2 _ c2 _ es _ (by assumption) (by assumption) hn).mono ?_; rintro e w' ⟨rfl, hbk⟩)))
    clear hB7
    go_split_ands
    have U : Below w7.heap.size w7 w' := by assumption
    have b0 : w'.cell? ⟨w.heap.size, 0, none⟩ = some (.int .i64 s) := by assumption
    have b1 : w'.cell? ⟨w.heap.size, 1, none⟩ = some (.slice A es.length c) := by assumption
    have x0 : w'.cell? ⟨w4.heap.size, 0, none⟩ = some (.int .i64 s) := by assumption
    have x1 : w'.cell? ⟨w4.heap.size, 1, none⟩ = some (.slice A2 es.length c2) := by assumption
    have T9 := below_step T7 U
    have o29 := own_below o27 U
    have o39 := own_below o37 U
    have hw79 := U.size
    have y0 : w'.cell? ⟨g8, 0, none⟩ = some (.int .i64 s) := held_step T9 (by assumption)
    have y1 : w'.cell? ⟨g8, 1, none⟩ = some (.slice B0 zs.length d0) := held_step T9 (by assumption)
    have z0 := held_step U z0
    have z1 := held_step U z1
    clear T7 o27 o37 U rx r2
    have hneg : decide ((1 : Int) + 3 * (es.length : Int) < 0) = false := decide_eq_false (by omega)
    have hneg2 : decide ((1 : Int) + 3 * (zs.length : Int) < 0) = false := decide_eq_false (by omega)
    have hsame : ((1 : Int) + 3 * (zs.length : Int) != 1 + 3 * (zs.length : Int)) = false := by simp
    go_wp2_with fail
    refine (markGraph_any W3.heap.size s A2 es.length c2 _ 1 w' o29 (by omega) hn).mono ?_
    rintro e w10 ⟨rfl, o210, g10⟩
    have T10 : Below W3.heap.size W3 w10 := T9.grown g10 T9.size (fun r hr => (o29.lt r hr).1)
    have o310 := own_later o39 o2 hle g10
    have z0 := g10.cell z0 (fun e => by have := o2lt _ e.symm; simp at this)
    have z1 := g10.cell z1 (fun e => by have := o2lt _ e.symm; simp at this)
    have y0 : w10.cell? ⟨g8, 0, none⟩ = some (.int .i64 s) := held_step T10 (by assumption)
    have y1 : w10.cell? ⟨g8, 1, none⟩ = some (.slice B0 zs.length d0) := held_step T10 (by assumption)
    clear o29 o39 g10 T9 o210 b0 b1 x0 x1
    go_wp2_with fail
    refine (eqGraph_same s B1 B0 d1 d0 zs w10 (RdE.own o310) (rB.below T10) (by omega)).mono ?_
    rintro e w11 ⟨rfl, k11⟩
    have T11 := below_step T10 k11
    have o311 := own_below o310 k11
    have z0 := held_step k11 z0
    have z1 := held_step k11 z1
    clear T10 k11 o310
    go_wp2_with fail
    refine (markGraph_any b5 s B1 zs.length d1 _ 1 w11 o311 (by omega) (by omega)).mono ?_
    rintro e w12 ⟨rfl, o312, g12⟩
    have T12 : Below W3.heap.size W3 w12 := T11.grown g12 T11.size (fun r hr => by have := (o311.lt r hr).1; omega)
    have z0 := g12.cell z0 (fun e => by have := o3lt _ e.symm; simp at this)
    have z1 := g12.cell z1 (fun e => by have := o3lt _ e.symm; simp at this)
    clear o311 g12 T11
    go_wp2_with fail
    refine (heldGraph_any s B1 zs.length d1 1 w12 (rdE_marks o312) (by omega) (by omega)).mono ?_
    rintro e w12' ⟨rfl, k12⟩
    have T12 := below_step T12 k12
    have o312 := own_below o312 k12
    have z0 := held_step k12 z0
    have z1 := held_step k12 z1
    have b0 : w12'.cell? ⟨w.heap.size, 0, none⟩ = some (.int .i64 s) := held_step T12 (by assumption)
    have b1 : w12'.cell? ⟨w.heap.size, 1, none⟩ = some (.slice A es.length c) := held_step T12 (by assumption)
    clear k12
    go_wp2_with fail
    refine (toGraph_any s A c es w12' (HX.out.below (below_step hB3 T12)) hn).mono ?_
    rintro e w13 ⟨A4, c4, rfl, o4, k13⟩
    go_wp2_with fail
    refine (impl_PartOf_any s A4 c4 es wk n w13 (RdE.own o4) hn HL.out).mono ?_
    rw [HZ.out]
    rintro e w14 ⟨B2, d2, rfl, o5, k14⟩
    have k1214 := below_step (below_step k13 k14) ((Below.refl w14.heap.size w14).alloc (Nat.le_refl _) (.cells #[.int .i64 s, .slice B2 zs.length d2] 26))
    have T14 := below_step T12 k1214
    have o314 := own_below o312 k1214
    have z0 := held_step k1214 z0
    have z1 := held_step k1214 z1
    have y0 := held_step T14 (by assumption : W3.cell? ⟨g8, 0, none⟩ = some (.int .i64 s))
    have y1 := held_step T14 (by assumption : W3.cell? ⟨g8, 1, none⟩ = some (.slice B0 zs.length d0))
    clear k13 k14 o4 k1214 b0 b1 T12 o312
    go_wp2_with fail
    refine (eqGraph_same s B2 B0 d2 d0 zs _ ((RdE.own o5).alloc _) (rB.below T14) (by omega)).mono ?_
    rintro e w15 ⟨rfl, k15⟩
    have T15 := below_step T14 k15
    have o315 := own_below o314 k15
    have z0 := held_step k15 z0
    have z1 := held_step k15 z1
    clear o5 T14 k15 o314
    go_wp2_with fail
    refine (heldGraph_any s B1 zs.length d1 1 w15 (rdE_marks o315) (by omega) (by omega)).mono ?_
    rintro e w15' ⟨rfl, k16⟩
    have T16 := below_step T15 k16
    go_wp2
    go_ret
    exact ⟨rfl, below_step hB3 T16⟩
  · have S0 := Lib.hid (fun w => szGraph_any s A es.length c 1048576 w (by omega) (by omega))
    rw [if_neg hb1] at S0
    go_enter Try.func12, Try.ntmps12
    go_wp2_with fail
    refine (S0.out _).mono ?_
    rintro e w1 ⟨rfl, k1⟩
    go_wp2
    go_ret
    exact ⟨rfl, below_step hB0 k1⟩
end Go.Proofs.Ytnhanakeijplcaa
