/- ReadGraph: program and reference return the same, and what is returned is the caller's own. No conditions. -/
import Derived.Test.YtnhanakeijplcaaLPartOf
import Derived.Test.YtnhanakeijplcaaSReadGraph
namespace Go.Proofs.Ytnhanakeijplcaa
open Go.RowKit

theorem oE_len (s : ByteArray) : (oE (rgOut s)).length ≤ 40 := by
  unfold rgOut
  split
  · rename_i h
    exact h.2.2.2.1
  · simp [oE]

set_option maxRecDepth 100000 in
set_option maxHeartbeats 6400000 in
theorem FnExactReadGraph_walk (a0 : ByteArray) (h0 : a0.size ≤ maxLen) (w : World) :
    Calls Try.prog 7 #[.string a0] w fun e w' => e = .returned (.bool true) ∧ Below w.heap.size w w' := by
  unfold maxLen at h0
  by_cases hb1 : a0.size ≤ 1048576
  · have C1 := Lib.hid (fun w => spec_ReadGraph_any a0 (by omega) w)
    have C2 := Lib.hid (fun w => impl_ReadGraph_any a0 (by omega) w)
    have hzl := oE_len a0
    unfold MadeGB at C1 C2
    obtain ⟨s, hs⟩ : ∃ x, oS (rgOut a0) = x := ⟨_, rfl⟩
    obtain ⟨zs, hzs⟩ : ∃ x, oE (rgOut a0) = x := ⟨_, rfl⟩
    obtain ⟨r, hr⟩ : ∃ x, (rgOut a0).isSome = x := ⟨_, rfl⟩
    rw [hzs] at hzl
    rw [hs, hzs, hr] at C1 C2
    clear hs hzs hr
    have hrr : (r != r) = false := by simp
    go_enter Try.func7, Try.ntmps7
    go_wp2_with fail
    refine (C1.out _).mono ?_
    rintro e w3 ⟨B0, d0, rfl, oB, k3⟩
    have kB : Below w3.heap.size w3 (w3.alloc (.cells #[.int .i64 s, .slice B0 zs.length d0] 26)) := (Below.refl _ _).alloc (Nat.le_refl _) _
    have rB := (RdE.own oB).below kB
    have hB3 := below_step k3 kB
    have y0 : (w3.alloc (.cells #[.int .i64 s, .slice B0 zs.length d0] 26)).cell? ⟨w3.heap.size, 0, none⟩ = some (.int .i64 s) := by go_keep
    have y1 : (w3.alloc (.cells #[.int .i64 s, .slice B0 zs.length d0] 26)).cell? ⟨w3.heap.size, 1, none⟩ = some (.slice B0 zs.length d0) := by go_keep
    have hW : w3.heap.size < (w3.alloc (.cells #[.int .i64 s, .slice B0 zs.length d0] 26)).heap.size := by simp
    obtain ⟨g8, hg8⟩ : ∃ g, w3.heap.size = g := ⟨_, rfl⟩
    obtain ⟨W3, hW3⟩ : ∃ W, w3.alloc (.cells #[.int .i64 s, .slice B0 zs.length d0] 26) = W := ⟨_, rfl⟩
    rw [hW3] at rB hB3 y0 y1 hW
    rw [hg8] at y0 y1 hW
    clear k3 oB kB
    go_wp2_with fail
    clear hW3 hg8
    refine (C2.out W3).mono ?_
    rintro e w6 ⟨B1, d1, rfl, o3, k6⟩
    have kg : Below w6.heap.size w6 (w6.alloc (.cells #[.int .i64 s, .slice B1 zs.length d1] 26)) := (Below.refl _ _).alloc (Nat.le_refl _) _
    have z0 : (w6.alloc (.cells #[.int .i64 s, .slice B1 zs.length d1] 26)).cell? ⟨w6.heap.size, 0, none⟩ = some (.int .i64 s) := by go_keep
    have z1 : (w6.alloc (.cells #[.int .i64 s, .slice B1 zs.length d1] 26)).cell? ⟨w6.heap.size, 1, none⟩ = some (.slice B1 zs.length d1) := by go_keep
    obtain ⟨g6, hg6⟩ : ∃ g, w6.heap.size = g := ⟨_, rfl⟩
    have T6 := below_step k6 kg
    have o36 := own_below o3 kg
    obtain ⟨W6, hW6⟩ : ∃ W, w6.alloc (.cells #[.int .i64 s, .slice B1 zs.length d1] 26) = W := ⟨_, rfl⟩
    have o3lt : ∀ r, (Value.slice B1 zs.length d1).ownBlock = some r → r < g6 := fun r hr => by rw [← hg6]; exact (o3.lt r hr).2
    rw [hW6] at z0 z1 T6 o36
    rw [hg6] at z0 z1
    have y0 := held_step T6 y0
    have y1 := held_step T6 y1
    clear kg o3 k6
    go_wp2_with fail
    clear hW6 hg6
    refine (eqGraph_same s B1 B0 d1 d0 zs W6 (RdE.own o36) (rB.below T6) (by omega)).mono ?_
    rintro e w7 ⟨rfl, k7⟩
    have T7 := below_step T6 k7
    have o37 := own_below o36 k7
    have z0 := held_step k7 z0
    have z1 := held_step k7 z1
    clear T6 k7 o36
    have hneg2 : decide ((1 : Int) + 3 * (zs.length : Int) < 0) = false := decide_eq_false (by omega)
    have hsame : ((1 : Int) + 3 * (zs.length : Int) != 1 + 3 * (zs.length : Int)) = false := by simp
    go_wp2_with fail
    refine (markGraph_any W3.heap.size s B1 zs.length d1 _ 1 w7 o37 (by omega) (by omega)).mono ?_
    rintro e w12 ⟨rfl, o312, g12⟩
    have T12 : Below W3.heap.size W3 w12 := T7.grown g12 T7.size (fun r hr => (o37.lt r hr).1)
    have z0 := g12.cell z0 (fun e => by have := o3lt _ e.symm; simp at this)
    have z1 := g12.cell z1 (fun e => by have := o3lt _ e.symm; simp at this)
    clear o37 g12 T7
    go_wp2_with fail
    refine (heldGraph_any s B1 zs.length d1 1 w12 (rdE_marks o312) (by omega) (by omega)).mono ?_
    rintro e w12' ⟨rfl, k12⟩
    have T12 := below_step T12 k12
    have o312 := own_below o312 k12
    have z0 := held_step k12 z0
    have z1 := held_step k12 z1
    clear k12
    go_wp2_with fail
    refine (C2.out w12').mono ?_
    rintro e w14 ⟨B2, d2, rfl, o5, k14⟩
    have k1214 := below_step k14 ((Below.refl w14.heap.size w14).alloc (Nat.le_refl _) (.cells #[.int .i64 s, .slice B2 zs.length d2] 26))
    have T14 := below_step T12 k1214
    have o314 := own_below o312 k1214
    have z0 := held_step k1214 z0
    have z1 := held_step k1214 z1
    have y0 := held_step T14 (by assumption : W3.cell? ⟨g8, 0, none⟩ = some (.int .i64 s))
    have y1 := held_step T14 (by assumption : W3.cell? ⟨g8, 1, none⟩ = some (.slice B0 zs.length d0))
    clear k14 k1214 T12 o312
    go_wp2_with fail
    refine (eqGraph_same s B2 B0 d2 d0 zs _ ((RdE.own o5).alloc _) (rB.below T14) (by omega)).mono ?_
    rintro e w15 ⟨rfl, k15⟩
    have T15 := below_step T14 k15
    have o315 := own_below o314 k15
    have z0 := held_step k15 z0
    have z1 := held_step k15 z1
    clear o5 T14 k15 o314
    go_wp2_with fail
    refine (heldGraph_any s B1 zs.length d1 1 w15 (rdE_marks o315) (by omega) (by omega)).mono ?_
    rintro e w15' ⟨rfl, k16⟩
    have T16 := below_step T15 k16
    go_wp2
    go_ret
    exact ⟨rfl, below_step hB3 T16⟩
  · go_enter Try.func7, Try.ntmps7
    go_wp2
    go_ret
    exact ⟨rfl, Below.refl _ _⟩
end Go.Proofs.Ytnhanakeijplcaa
