/- Owned: program and reference return the same, leave their arguments as they were, and what is returned is the caller's own. No conditions. -/
import Derived.Test.YtnhanakeijplcaaLGraphOk
import Derived.Test.YtnhanakeijplcaaOwned
import Derived.Test.YtnhanakeijplcaaMark
namespace Go.Proofs.Ytnhanakeijplcaa
open Go.RowKit

theorem ownedL_len (s : Int) (es : List Ed) (wk n : Int) : (ownedL s es wk n).length ≤ 12 := by
  unfold ownedL
  split
  · rename_i h
    have h1 : GOk s es := by
      unfold PP at h
      exact @of_decide_eq_true _ (Classical.propDecidable _) h
    have := ownedTo_len wk n s.toNat
    have := h1.1
    omega
  · simp
theorem eqIntS_same (A B : Option Addr) (c d : Nat) (xs : List Int) (w : World) (hx : RdI w A xs.length xs) (hy : RdI w B xs.length xs) (hn : xs.length ≤ 4294967296) :
    Calls Try.prog 42 #[.slice A xs.length c, .slice B xs.length d] w fun e w' => e = .returned (.bool true) ∧ Below w.heap.size w w' := by
  refine (eqIntS_any A B _ _ c d xs xs w hx hy hn).mono ?_
  rintro e w1 ⟨rfl, hb⟩
  exact ⟨by rw [eqL_yes rfl], hb⟩
theorem RdI.own {w : World} {b0 : Nat} {e : TypeId} {A : Option Addr} {c n : Nat} {zs : List Int} (h : w.ownsRow b0 e 1 (.slice A n c) n (zs.map (Value.int .i64))) : RdI w A n zs := Rd.of_own h
/-- A row that was made later than another is kept when that other is written into. -/
theorem own_later {w w' w1 : World} {b1 b2 : Nat} {e1 e2 : TypeId} {z1 z2 : Nat} {v1 v2 : Value} {n1 n2 : Nat} {xs1 xs2 : List Value}
    (h2 : w.ownsRow b2 e2 z2 v2 n2 xs2) (h1 : w1.ownsRow b1 e1 z1 v1 n1 xs1) (hle : w1.heap.size ≤ b2) (hg : w.grownBy w' v1.ownBlock) : w'.ownsRow b2 e2 z2 v2 n2 xs2 :=
  h2.kept hg (Classical.or_iff_not_imp_left.2 fun hne e => by
    cases hr : v2.ownBlock with
    | none => exact hne hr
    | some r =>
      have h3 := (h2.lt r hr).1
      have h4 := (h1.lt r (e.symm.trans hr)).2
      omega)

set_option maxRecDepth 100000 in
set_option maxHeartbeats 6400000 in
theorem FnExactOwned_walk (w : World) (v0 : Value) (s : Int) (es : List Ed) (h0 : GrK w v0 s es) (wk : Int) (_hwk : (Lit.int .i64 wk).wf = true) (n : Int) (_hnn : (Lit.int .i64 n).wf = true) :
    Calls Try.prog 13 #[v0, .int .i64 wk, .int .i64 n] w fun e w' => e = .returned (.bool true) ∧ Below w.heap.size w w' := by
  obtain ⟨_, A, c, rfl, hx, hlc, hcm, hok⟩ := h0
  have HL := Lib.hid (fun e he => (hok e he).2.1 : ∀ e ∈ es, 0 ≤ e.l ∧ e.l ≤ 255)
  have HX := Lib.hid hx
  clear hok hx _hwk _hnn
  unfold maxLen at hcm
  have hB0 : Below w.heap.size w (w.alloc (.cells #[.int .i64 s, .slice A es.length c] 41)) := (Below.refl _ _).alloc (Nat.le_refl _) _
  obtain ⟨zs, hzs⟩ : ∃ zs, ownedL s es wk n = zs := ⟨_, rfl⟩
  have hzl := ownedL_len s es wk n
  rw [hzs] at hzl
  have HZ := Lib.hid hzs
  clear hzs
  by_cases hb1 : (es.length : Int) ≤ 1048576
  · have S0 := Lib.hid (fun w => szGraph_any s A es.length c 1048576 w (by omega) (by omega))
    rw [if_pos hb1] at S0
    have hn : es.length ≤ 4294967296 := by omega
    have hq : decide ((1048576 : Int) - (es.length : Int) < 0) = false := decide_eq_false (by omega)
    go_enter Try.func13, Try.ntmps13
    go_wp2_with fail
    refine (S0.out _).mono ?_
    rintro e w1 ⟨rfl, k1⟩
    have hB1 := below_step hB0 k1
    have b0 : w1.cell? ⟨w.heap.size, 0, none⟩ = some (.int .i64 s) := held_step k1 (by go_keep)
    have b1 : w1.cell? ⟨w.heap.size, 1, none⟩ = some (.slice A es.length c) := held_step k1 (by go_keep)
    clear k1 hB0
    go_wp2_with fail
    refine (toGraph_any s A c es w1 (HX.out.below hB1) hn).mono ?_
    rintro e w2 ⟨A1, c1, rfl, o1, k2⟩
    have r1 := RdE.own o1
    clear o1
    go_wp2_with fail
    refine (spec_Owned_any s A1 c1 es wk n w2 r1 hn HL.out).mono ?_
    rw [HZ.out]
    rintro e w3 ⟨B0, d0, rfl, oB, k3⟩
    have k23 := below_step k2 k3
    have hB3 := below_step hB1 k23
    have b0 := held_step k23 b0
    have b1 := held_step k23 b1
    have rB := RdI.own oB
    clear k2 k3 k23 r1 hB1 oB
    go_wp2_with fail
    refine (toGraph_any s A c es w3 (HX.out.below hB3) hn).mono ?_
    rintro e w4 ⟨A2, c2, rfl, o2, T4⟩
    have k5 : Below w4.heap.size w4 (w4.alloc (.cells #[.int .i64 s, .slice A2 es.length c2] 26)) := (Below.refl _ _).alloc (Nat.le_refl _) _
    go_wp2_with fail
    refine (impl_Owned_any s A2 c2 es wk n _ ((RdE.own o2).below k5) hn HL.out).mono ?_
    rw [HZ.out]
    rintro e w6 ⟨B1, d1, rfl, o3, k6⟩
    have k56 := below_step k5 k6
    have x0 : w6.cell? ⟨w4.heap.size, 0, none⟩ = some (.int .i64 s) := held_step k6 (by go_keep)
    have x1 : w6.cell? ⟨w4.heap.size, 1, none⟩ = some (.slice A2 es.length c2) := held_step k6 (by go_keep)
    have T6 := below_step T4 k56
    have o26 := own_below o2 k56
    have hle : w4.heap.size ≤ (w4.alloc (.cells #[.int .i64 s, .slice A2 es.length c2] 26)).heap.size := by simp
    obtain ⟨b5, hb5⟩ : ∃ b, (w4.alloc (.cells #[.int .i64 s, .slice A2 es.length c2] 26)).heap.size = b := ⟨_, rfl⟩
    rw [hb5] at o3 hle
    have hw36 := T6.size
    have hw46 := k56.size
    have hw34 := T4.size
    have hw56 := k6.size
    rw [hb5] at hw56
    clear k5 k6 k56 T4 hb5
    go_wp2_with fail
    refine (eqIntS_same B1 B0 d1 d0 zs w6 (RdI.own o3) (rB.below T6) (by omega)).mono ?_
    rintro e w7 ⟨rfl, k7⟩
    have T7 := below_step T6 k7
    have o27 := own_below o26 k7
    have o37 := own_below o3 k7
    have x0 := held_step k7 x0
    have x1 := held_step k7 x1
    have b0 := held_step T7 b0
    have b1 := held_step T7 b1
    have hw67 := k7.size
    have rx := HX.out.below (below_step hB3 T7)
    have r2 := RdE.own o27
    have hB7 : Below w7.heap.size w7 w7.drew := (Below.refl _ _).drew
    clear T6 k7 o26 o3
    go_wp2_with fail
    go_region_held3 (fun w' => w'.cell? ⟨w.heap.size, 0, none⟩ = some (.int .i64 s) ∧ w'.cell? ⟨w.heap.size, 1, none⟩ = some (.slice A es.length c) ∧
        w'.cell? ⟨w4.heap.size, 0, none⟩ = some (.int .i64 s) ∧ w'.cell? ⟨w4.heap.size, 1, none⟩ = some (.slice A2 es.length c2) ∧ RdE w' A es ∧ RdE w' A2 es ∧ Below w7.heap.size w7 w')
      ((first
        | (go_split_ands; exact ⟨held_step hbk (by assumption), held_step hbk (by assumption), held_step hbk (by assumption), held_step hbk (by assumption), RdE.below (by assumption) hbk, RdE.below (by assumption) hbk, below_step (by assumption) hbk⟩)
        | (exact ⟨b0, b1, x0, x1, rx, r2, hB7⟩)))
      ((first
        | (go_at_call 27; go_split_ands; refine (toGraph_any s A c es _ (by assumption) hn).mono ?_; rintro e w' ⟨A3, c3, rfl, o3, hbk⟩; have r3 := RdE.own o3; clear o3)
        | (go_at_call 28; go_split_ands; refine (eqGraph_same s A2 _ c2 _ es _ (by assumption) (by assumption) hn).mono ?_; rintro e w' ⟨rfl, hbk⟩)))
    clear hB7
    go_split_ands
    have U : Below w7.heap.size w7 w' := by assumption
    have b0 : w'.cell? ⟨w.heap.size, 0, none⟩ = some (.int .i64 s) := by assumption
    have b1 : w'.cell? ⟨w.heap.size, 1, none⟩ = some (.slice A es.length c) := by assumption
    have x0 : w'.cell? ⟨w4.heap.size, 0, none⟩ = some (.int .i64 s) := by assumption
    have x1 : w'.cell? ⟨w4.heap.size, 1, none⟩ = some (.slice A2 es.length c2) := by assumption
    have T9 := below_step T7 U
    have o29 := own_below o27 U
    have o39 := own_below o37 U
    have hw79 := U.size
    clear T7 o27 o37 U rx r2
    have hneg : decide ((1 : Int) + 3 * (es.length : Int) < 0) = false := decide_eq_false (by omega)
    have hneg2 : decide ((1 : Int) + (zs.length : Int) < 0) = false := decide_eq_false (by omega)
    have hsame : ((1 : Int) + (zs.length : Int) != 1 + (zs.length : Int)) = false := by simp
    go_wp2_with fail
    refine (markGraph_any w3.heap.size s A2 es.length c2 _ 1 w' o29 (by omega) hn).mono ?_
    rintro e w10 ⟨rfl, o210, g10⟩
    have T10 : Below w3.heap.size w3 w10 := T9.grown g10 T9.size (fun r hr => (o29.lt r hr).1)
    have o310 := own_later o39 o2 hle g10
    have hs10 := g10.size
    clear o29 o39 g10 T9 o210 b0 b1 x0 x1
    go_wp2_with fail
    refine (eqIntS_same B1 B0 d1 d0 zs w10 (RdI.own o310) (rB.below T10) (by omega)).mono ?_
    rintro e w11 ⟨rfl, k11⟩
    have T11 := below_step T10 k11
    have o311 := own_below o310 k11
    clear T10 k11 o310
    go_wp2_with fail
    refine (markIntS_any b5 B1 zs.length d1 _ 1 w11 o311 (by omega) (by omega)).mono ?_
    rintro e w12 ⟨rfl, o312, g12⟩
    have T12 : Below w3.heap.size w3 w12 := T11.grown g12 T11.size (fun r hr => by have := (o311.lt r hr).1; omega)
    clear o311 g12 T11
    go_wp2_with fail
    refine (heldIntS_any B1 zs.length d1 1 w12 (RdI.own o312) (by omega) (by omega)).mono ?_
    rintro e w12' ⟨rfl, rfl⟩
    have b0 : w12.cell? ⟨w.heap.size, 0, none⟩ = some (.int .i64 s) := held_step T12 (by assumption)
    have b1 : w12.cell? ⟨w.heap.size, 1, none⟩ = some (.slice A es.length c) := held_step T12 (by assumption)
    go_wp2_with fail
    refine (toGraph_any s A c es w12 (HX.out.below (below_step hB3 T12)) hn).mono ?_
    rintro e w13 ⟨A4, c4, rfl, o4, k13⟩
    go_wp2_with fail
    refine (impl_Owned_any s A4 c4 es wk n w13 (RdE.own o4) hn HL.out).mono ?_
    rw [HZ.out]
    rintro e w14 ⟨B2, d2, rfl, o5, k14⟩
    have k1214 := below_step k13 k14
    have T14 := below_step T12 k1214
    have o314 := own_below o312 k1214
    clear k13 k14 o4 k1214 b0 b1 T12 o312
    go_wp2_with fail
    refine (eqIntS_same B2 B0 d2 d0 zs w14 (RdI.own o5) (rB.below T14) (by omega)).mono ?_
    rintro e w15 ⟨rfl, k15⟩
    have T15 := below_step T14 k15
    have o315 := own_below o314 k15
    clear o5 T14 k15 o314
    go_wp2_with fail
    refine (heldIntS_any B1 zs.length d1 1 w15 (RdI.own o315) (by omega) (by omega)).mono ?_
    rintro e w15' ⟨rfl, rfl⟩
    go_wp2
    go_ret
    exact ⟨rfl, below_step hB3 T15⟩
  · have S0 := Lib.hid (fun w => szGraph_any s A es.length c 1048576 w (by omega) (by omega))
    rw [if_neg hb1] at S0
    go_enter Try.func13, Try.ntmps13
    go_wp2_with fail
    refine (S0.out _).mono ?_
    rintro e w1 ⟨rfl, k1⟩
    go_wp2
    go_ret
    exact ⟨rfl, below_step hB0 k1⟩
end Go.Proofs.Ytnhanakeijplcaa
