/- TurnedPath: program and reference return the same, leave their arguments as they were, and what is returned is the caller's own. No conditions. Printed by xlmade.py. -/
import Derived.Test.YtdmheaommmnhoaaSTurnedP
import Derived.Test.YtdmheaommmnhoaaTurnedP
import Derived.Test.YtdmheaommmnhoaaPMark
import Derived.Deep.RegionHeld3
namespace Go.Proofs.Ytdmheaommmnhoaa
open Go.RowKit
set_option maxRecDepth 100000 in

set_option maxHeartbeats 6400000 in
theorem FnExactTurnedPath_walk (w : World) (v0 : Value) (ps : List Pc) (h0 : PaK w v0 ps) :
    Calls Try.prog 5 #[v0] w fun e w' => e = .returned (.bool true) ∧ Below w.heap.size w w' := by
  obtain ⟨A, c, rfl, hx, hlc, hcm, hok⟩ := h0
  have HX0 := Lib.hid hx
  have hk0 : ∀ p ∈ ps, p.k.length ≤ 9223372036854775807 := fun p hp => by have := (hok p hp).2.2.1; unfold maxLen at this; omega
  clear hok
  unfold maxLen at hcm
  have hB0 := below_alloc w (.cells #[.slice A ps.length c] 24)
  have p0 := heap_alloc_new w (.cells #[.slice A ps.length c] 24)
  have S0 := Lib.hid (szPath_any A c ps 1048576 (w.alloc (.cells #[.slice A ps.length c] 24)) (hx.alloc _) (by omega) (by omega) hk0)
  clear hk0 hx
  by_cases hb1 : (ps.length : Int) + sumK ps ≤ 1048576
  · rw [szP_yes hb1] at S0
    have hn : ps.length ≤ 4294967296 := by omega
    have HK : Hid (∀ p ∈ ps, p.k.length ≤ 4294967296) := Lib.hid (fun p hp => by have := sumK_mem hp; omega)
    have hq : decide ((1048576 : Int) - (ps.length : Int) - (sumK ps : Int) < 0) = false := decide_eq_false (by omega)
    have hcn0 : cntP ps ≤ 4194304 := by rw [cntP_eq]; omega
    have hcn1 := tuP_cnt ps
    have hzl := tuP_len ps
    have HZK := Lib.hid (tuP_kids HK.out)
    have C1 := Lib.hid (fun (w : World) (A0 : Option Addr) (c0 : Nat) (h0 : RdP w A0 ps) => spec_TurnedPath_any A0 c0 ps w h0 hn HK.out)
    have C2 := Lib.hid (fun (w : World) (A0 : Option Addr) (c0 : Nat) (h0 : RdP w A0 ps) => impl_TurnedPath_any A0 c0 ps w h0 hn HK.out)
    unfold MadePath at C1 C2
    obtain ⟨zs, hzs⟩ : ∃ zs, tuP ps = zs := ⟨_, rfl⟩
    rw [hzs] at C1 C2 hcn1 hzl HZK
    obtain ⟨cn, hcn⟩ : ∃ n : Nat, cntP ps = n := ⟨_, rfl⟩
    rw [hcn] at hcn0 hcn1
    have TO0 := Lib.hid (fun (w : World) (hx : RdP w A ps) => toPath_any A c ps w hx hn HK.out)
    unfold MadePath at TO0
    have EQ0 := Lib.hid (fun (A B : Option Addr) (c d : Nat) (w : World) (hx : RdP w A ps) (hy : RdP w B ps) => PP_yes (p := ps = ps) rfl ▸ eqPath_any A B c d ps ps w hx hy hn HK.out)
    have EQ := Lib.hid (fun (A B : Option Addr) (c d : Nat) (w : World) (hx : RdP w A zs) (hy : RdP w B zs) => PP_yes (p := zs = zs) rfl ▸ eqPath_any A B c d zs zs w hx hy (by omega) HZK.out)
    have MB0 := Lib.hid (fun (lo hi : Nat) (A : Option Addr) (c : Nat) (w : World) (ho : OwnPI w lo hi A c ps) => markPath_any lo hi A c ps 1 w ho (by omega))
    have MB := Lib.hid (fun (lo hi : Nat) (A : Option Addr) (c : Nat) (w : World) (ho : OwnPI w lo hi A c zs) => markPath_any lo hi A c zs 1 w ho (by omega))
    have HB := Lib.hid (fun (A : Option Addr) (c : Nat) (w : World) (hx : RdP w A (markP 1 zs)) => heldPath_any A c zs 1 w hx (by omega))
    unfold MarkedP at MB MB0
    rw [hcn1] at MB HB
    rw [hcn] at MB0
    have hneg : decide ((1 : Int) + (cn : Int) < 0) = false := decide_eq_false (by omega)
    have hsame : ((1 : Int) + (cn : Int) != 1 + (cn : Int)) = false := by simp
    clear hb1 hcn hcn1 hzs hzl
    go_enter Try.func5, Try.ntmps5
    go_wp2_with fail
    refine S0.out.mono ?_
    rintro e w1 ⟨rfl, k⟩
    have hB := below_step hB0 k
    have p0 := blk_below k p0
    have hz_p0 := blk_lt p0
    clear k hB0 S0
    have c_p0 := blk_cell (o := 0) p0 rfl
    go_wp2_with fail
    refine (TO0.out _ (HX0.out.keep hB)).mono ?_
    rintro e w2 ⟨U0, u0_, rfl, ru0, k⟩
    clear c_p0
    replace p0 := blk_below k p0
    replace hB := below_step hB k
    have z2 := k.size
    have ru0 := ru0.rd
    clear k
    have c_p0 := blk_cell (o := 0) p0 rfl
    go_wp2_with fail
    refine (C1.out _ U0 u0_ ru0).mono ?_
    rintro e w3 ⟨B0, d0, rfl, oB, k⟩
    clear c_p0
    replace p0 := blk_below k p0
    replace hB := below_step hB k
    have z3 := k.size
    clear k
    have ka := below_alloc w3 (.cells #[.slice B0 zs.length d0] 29)
    have qB := heap_alloc_new w3 (.cells #[.slice B0 zs.length d0] 29)
    have zz : w3.heap.size < (w3.alloc (.cells #[.slice B0 zs.length d0] 29)).heap.size := by simp
    replace p0 := blk_below ka p0
    replace oB := oB.keep ka
    replace hB := below_step hB ka
    have z3 := ka.size
    obtain ⟨g3, hg3⟩ : ∃ g, w3.heap.size = g := ⟨_, rfl⟩
    obtain ⟨W3, hW3⟩ : ∃ W, w3.alloc (.cells #[.slice B0 zs.length d0] 29) = W := ⟨_, rfl⟩
    have Hg3 := Lib.hid hg3
    rw [hW3] at p0 oB hB zz qB
    rw [hg3] at zz qB
    try rw [hg3] at oB
    have hz_qB := zz
    clear ka zz z3
    have c_p0 := blk_cell (o := 0) p0 rfl
    have c_qB := blk_cell (o := 0) qB rfl
    go_wp2_with fail
    clear hW3 hg3
    have RB := Lib.hid oB.rd
    clear oB
    have T : Below W3.heap.size W3 W3 := Below.refl _ _
    refine (TO0.out _ (HX0.out.keep hB)).mono ?_
    rintro e w4 ⟨X0, x0, rfl, o0, k⟩
    clear c_p0 c_qB
    have o0 := OwnPI.of o0
    replace p0 := blk_below k p0
    replace qB := blk_below k qB
    replace hB := below_step hB k
    replace T := below_step T k
    have z4 := k.size
    clear k
    have ka := below_alloc w4 (.cells #[.slice X0 ps.length x0] 29)
    have q0 := heap_alloc_new w4 (.cells #[.slice X0 ps.length x0] 29)
    have zz : w4.heap.size < (w4.alloc (.cells #[.slice X0 ps.length x0] 29)).heap.size := by simp
    replace p0 := blk_below ka p0
    replace qB := blk_below ka qB
    replace o0 := o0.keep ka
    replace hB := below_step hB ka
    replace T := below_step T ka
    have z4 := ka.size
    obtain ⟨g4, hg4⟩ : ∃ g, w4.heap.size = g := ⟨_, rfl⟩
    obtain ⟨W4, hW4⟩ : ∃ W, w4.alloc (.cells #[.slice X0 ps.length x0] 29) = W := ⟨_, rfl⟩
    have Hg4 := Lib.hid hg4
    rw [hW4] at p0 qB o0 hB zz q0 T
    rw [hg4] at zz q0
    try rw [hg4] at o0
    have hz_q0 := zz
    clear ka zz z4
    have c_p0 := blk_cell (o := 0) p0 rfl
    have c_qB := blk_cell (o := 0) qB rfl
    have c_q0 := blk_cell (o := 0) q0 rfl
    go_wp2_with fail
    clear hW4 hg4
    refine (C2.out _ X0 x0 o0.p.rd).mono ?_
    rintro e w5 ⟨B1, d1, rfl, oG, k⟩
    clear c_p0 c_qB c_q0
    have oG := OwnPI.of oG
    replace p0 := blk_below k p0
    replace qB := blk_below k qB
    replace q0 := blk_below k q0
    replace o0 := o0.keep k
    replace hB := below_step hB k
    replace T := below_step T k
    have z5 := k.size
    clear k
    have ka := below_alloc w5 (.cells #[.slice B1 zs.length d1] 29)
    have qG := heap_alloc_new w5 (.cells #[.slice B1 zs.length d1] 29)
    have zz : w5.heap.size < (w5.alloc (.cells #[.slice B1 zs.length d1] 29)).heap.size := by simp
    replace p0 := blk_below ka p0
    replace qB := blk_below ka qB
    replace q0 := blk_below ka q0
    replace o0 := o0.keep ka
    replace oG := oG.keep ka
    replace hB := below_step hB ka
    replace T := below_step T ka
    have z5 := ka.size
    obtain ⟨g5, hg5⟩ : ∃ g, w5.heap.size = g := ⟨_, rfl⟩
    obtain ⟨W5, hW5⟩ : ∃ W, w5.alloc (.cells #[.slice B1 zs.length d1] 29) = W := ⟨_, rfl⟩
    have Hg5 := Lib.hid hg5
    rw [hW5] at p0 qB q0 o0 oG hB zz qG T
    rw [hg5] at zz qG
    try rw [hg5] at o0
    try rw [hg5] at oG
    have hz_qG := zz
    clear ka zz z5
    have c_p0 := blk_cell (o := 0) p0 rfl
    have c_qB := blk_cell (o := 0) qB rfl
    have c_q0 := blk_cell (o := 0) q0 rfl
    have c_qG := blk_cell (o := 0) qG rfl
    go_wp2_with fail
    clear hW5 hg5
    refine (EQ.out B1 B0 d1 d0 _ oG.p.rd (RB.out.keep T)).mono ?_
    rintro e w6 ⟨rfl, k⟩
    clear c_p0 c_qB c_q0 c_qG
    replace p0 := blk_below k p0
    replace qB := blk_below k qB
    replace q0 := blk_below k q0
    replace qG := blk_below k qG
    replace o0 := o0.keep k
    replace oG := oG.keep k
    replace hB := below_step hB k
    replace T := below_step T k
    have z6 := k.size
    clear k
    have MK := Lib.hid (fun (w' : World) (hk : Below w6.heap.size w6 w') => (⟨blk_cell (o := 0) (blk_below hk p0) rfl, blk_cell (o := 0) (blk_below hk q0) rfl, hk⟩ : w'.cell? ⟨w.heap.size, 0, none⟩ = some (.slice A ps.length c) ∧ w'.cell? ⟨g4, 0, none⟩ = some (.slice X0 ps.length x0) ∧ Below w6.heap.size w6 w'))
    have B0' : Below w6.heap.size w6 w6.drew := (Below.refl _ _).drew
    have RX := Lib.hid o0.p.rd
    have HBc := Lib.hid hB
    have EQX := Lib.hid (fun (A3 : Option Addr) (c3 : Nat) (w' : World) (hk : Below w6.heap.size w6 w') h => EQ0.out X0 A3 x0 c3 w' (RX.out.keep hk) h)
    have c_p0 := blk_cell (o := 0) p0 rfl
    have c_qB := blk_cell (o := 0) qB rfl
    have c_q0 := blk_cell (o := 0) q0 rfl
    have c_qG := blk_cell (o := 0) qG rfl
    go_wp2_with fail
    go_region_held3 (fun w' => w'.cell? ⟨w.heap.size, 0, none⟩ = some (.slice A ps.length c) ∧ w'.cell? ⟨g4, 0, none⟩ = some (.slice X0 ps.length x0) ∧ Below w6.heap.size w6 w')
      ((first
        | (exact MK.out _ B0')
        | assumption
        | (go_split_ands; exact MK.out _ (below_step (by assumption) hbk))))
      ((first
        | (go_at_call 17; go_split_ands; refine (TO0.out _ (HX0.out.keep (below_step HBc.out (by assumption)))).mono ?_; rintro e w' ⟨A3, c3, rfl, o3, hbk⟩; have r3 := o3.rd; clear o3)
        | (go_at_call 19; go_split_ands; refine (EQX.out _ _ _ (by assumption) r3).mono ?_; rintro e w' ⟨rfl, hbk⟩)))
    obtain ⟨w7, rfl⟩ : ∃ wq : World, wq = w' := ⟨_, rfl⟩
    go_split_ands
    have U : Below w6.heap.size w6 w7 := by assumption
    clear c_p0 c_qB c_q0 c_qG MK B0' RX HBc EQX
    replace p0 := blk_below U p0
    replace qB := blk_below U qB
    replace q0 := blk_below U q0
    replace qG := blk_below U qG
    replace o0 := o0.keep U
    replace oG := oG.keep U
    replace hB := below_step hB U
    replace T := below_step T U
    have z7 := U.size
    clear U
    have c_p0 := blk_cell (o := 0) p0 rfl
    have c_qB := blk_cell (o := 0) qB rfl
    have c_q0 := blk_cell (o := 0) q0 rfl
    have c_qG := blk_cell (o := 0) qG rfl
    go_wp2_with fail
    refine (MB0.out _ _ X0 x0 _ o0).mono ?_
    rintro e w8 ⟨rfl, _, t⟩
    clear c_p0 c_qB c_q0 c_qG
    replace p0 := t.blk p0 (by have e0 := Hg3.out; have e1 := Hg4.out; have e2 := Hg5.out; omega)
    replace qB := t.blk qB (by have e0 := Hg3.out; have e1 := Hg4.out; have e2 := Hg5.out; omega)
    replace q0 := t.blk q0 (by have e0 := Hg3.out; have e1 := Hg4.out; have e2 := Hg5.out; omega)
    replace qG := t.blk qG (by have e0 := Hg3.out; have e1 := Hg4.out; have e2 := Hg5.out; omega)
    replace oG := oG.touch t (by have e0 := Hg3.out; have e1 := Hg4.out; have e2 := Hg5.out; omega)
    replace hB := hB.trans ((t.below (by have e0 := Hg3.out; have e1 := Hg4.out; have e2 := Hg5.out; omega)).mono (by have e0 := Hg3.out; have e1 := Hg4.out; have e2 := Hg5.out; omega))
    replace T := T.trans ((t.below (by have e0 := Hg3.out; have e1 := Hg4.out; have e2 := Hg5.out; omega)).mono (by have e0 := Hg3.out; have e1 := Hg4.out; have e2 := Hg5.out; omega))
    have z8 := t.size
    clear t o0
    have c_p0 := blk_cell (o := 0) p0 rfl
    have c_qB := blk_cell (o := 0) qB rfl
    have c_q0 := blk_cell (o := 0) q0 rfl
    have c_qG := blk_cell (o := 0) qG rfl
    go_wp2_with fail
    refine (EQ.out B1 B0 d1 d0 _ oG.p.rd (RB.out.keep T)).mono ?_
    rintro e w9 ⟨rfl, k⟩
    clear c_p0 c_qB c_q0 c_qG
    replace p0 := blk_below k p0
    replace qB := blk_below k qB
    replace q0 := blk_below k q0
    replace qG := blk_below k qG
    replace oG := oG.keep k
    replace hB := below_step hB k
    replace T := below_step T k
    have z9 := k.size
    clear k
    have c_p0 := blk_cell (o := 0) p0 rfl
    have c_qB := blk_cell (o := 0) qB rfl
    have c_q0 := blk_cell (o := 0) q0 rfl
    have c_qG := blk_cell (o := 0) qG rfl
    go_wp2_with fail
    refine (MB.out _ _ B1 d1 _ oG).mono ?_
    rintro e w10 ⟨rfl, oM, t⟩
    clear c_p0 c_qB c_q0 c_qG
    replace p0 := t.blk p0 (by have e0 := Hg3.out; have e1 := Hg4.out; have e2 := Hg5.out; omega)
    replace qB := t.blk qB (by have e0 := Hg3.out; have e1 := Hg4.out; have e2 := Hg5.out; omega)
    replace q0 := t.blk q0 (by have e0 := Hg3.out; have e1 := Hg4.out; have e2 := Hg5.out; omega)
    replace qG := t.blk qG (by have e0 := Hg3.out; have e1 := Hg4.out; have e2 := Hg5.out; omega)
    replace hB := hB.trans ((t.below (by have e0 := Hg3.out; have e1 := Hg4.out; have e2 := Hg5.out; omega)).mono (by have e0 := Hg3.out; have e1 := Hg4.out; have e2 := Hg5.out; omega))
    replace T := T.trans ((t.below (by have e0 := Hg3.out; have e1 := Hg4.out; have e2 := Hg5.out; omega)).mono (by have e0 := Hg3.out; have e1 := Hg4.out; have e2 := Hg5.out; omega))
    have z10 := t.size
    clear t oG
    have c_p0 := blk_cell (o := 0) p0 rfl
    have c_qB := blk_cell (o := 0) qB rfl
    have c_q0 := blk_cell (o := 0) q0 rfl
    have c_qG := blk_cell (o := 0) qG rfl
    go_wp2_with fail
    refine (HB.out B1 d1 _ oM.p.rd).mono ?_
    rintro e w11 ⟨rfl, k⟩
    clear c_p0 c_qB c_q0 c_qG
    replace p0 := blk_below k p0
    replace qB := blk_below k qB
    replace q0 := blk_below k q0
    replace qG := blk_below k qG
    replace oM := oM.keep k
    replace hB := below_step hB k
    replace T := below_step T k
    have z11 := k.size
    clear k
    have c_p0 := blk_cell (o := 0) p0 rfl
    have c_qB := blk_cell (o := 0) qB rfl
    have c_q0 := blk_cell (o := 0) q0 rfl
    have c_qG := blk_cell (o := 0) qG rfl
    go_wp2_with fail
    refine (TO0.out _ (HX0.out.keep hB)).mono ?_
    rintro e w12 ⟨V0, v0_, rfl, rv0, k⟩
    clear c_p0 c_qB c_q0 c_qG
    replace p0 := blk_below k p0
    replace qB := blk_below k qB
    replace q0 := blk_below k q0
    replace qG := blk_below k qG
    replace oM := oM.keep k
    replace hB := below_step hB k
    replace T := below_step T k
    have z12 := k.size
    have rv0 := rv0.rd
    clear k
    have c_p0 := blk_cell (o := 0) p0 rfl
    have c_qB := blk_cell (o := 0) qB rfl
    have c_q0 := blk_cell (o := 0) q0 rfl
    have c_qG := blk_cell (o := 0) qG rfl
    go_wp2_with fail
    refine (C2.out _ V0 v0_ rv0).mono ?_
    rintro e w13 ⟨B2, d2, rfl, oH, k⟩
    clear c_p0 c_qB c_q0 c_qG
    replace p0 := blk_below k p0
    replace qB := blk_below k qB
    replace q0 := blk_below k q0
    replace qG := blk_below k qG
    replace oM := oM.keep k
    replace hB := below_step hB k
    replace T := below_step T k
    have z13 := k.size
    clear k
    have ka := below_alloc w13 (.cells #[.slice B2 zs.length d2] 29)
    have qH := heap_alloc_new w13 (.cells #[.slice B2 zs.length d2] 29)
    have zz : w13.heap.size < (w13.alloc (.cells #[.slice B2 zs.length d2] 29)).heap.size := by simp
    replace p0 := blk_below ka p0
    replace qB := blk_below ka qB
    replace q0 := blk_below ka q0
    replace qG := blk_below ka qG
    replace oM := oM.keep ka
    replace oH := oH.keep ka
    replace hB := below_step hB ka
    replace T := below_step T ka
    have z13 := ka.size
    obtain ⟨g13, hg13⟩ : ∃ g, w13.heap.size = g := ⟨_, rfl⟩
    obtain ⟨W13, hW13⟩ : ∃ W, w13.alloc (.cells #[.slice B2 zs.length d2] 29) = W := ⟨_, rfl⟩
    have Hg13 := Lib.hid hg13
    rw [hW13] at p0 qB q0 qG oM oH hB zz qH T
    rw [hg13] at zz qH
    try rw [hg13] at oM
    try rw [hg13] at oH
    have hz_qH := zz
    clear ka zz z13
    have c_p0 := blk_cell (o := 0) p0 rfl
    have c_qB := blk_cell (o := 0) qB rfl
    have c_q0 := blk_cell (o := 0) q0 rfl
    have c_qG := blk_cell (o := 0) qG rfl
    have c_qH := blk_cell (o := 0) qH rfl
    go_wp2_with fail
    clear hW13 hg13
    refine (EQ.out B2 B0 d2 d0 _ oH.rd (RB.out.keep T)).mono ?_
    rintro e w14 ⟨rfl, k⟩
    clear c_p0 c_qB c_q0 c_qG c_qH
    replace p0 := blk_below k p0
    replace qB := blk_below k qB
    replace q0 := blk_below k q0
    replace qG := blk_below k qG
    replace qH := blk_below k qH
    replace oM := oM.keep k
    replace hB := below_step hB k
    replace T := below_step T k
    have z14 := k.size
    clear k oH
    have c_p0 := blk_cell (o := 0) p0 rfl
    have c_qB := blk_cell (o := 0) qB rfl
    have c_q0 := blk_cell (o := 0) q0 rfl
    have c_qG := blk_cell (o := 0) qG rfl
    have c_qH := blk_cell (o := 0) qH rfl
    go_wp2_with fail
    refine (HB.out B1 d1 _ oM.p.rd).mono ?_
    rintro e w15 ⟨rfl, k⟩
    clear c_p0 c_qB c_q0 c_qG c_qH
    replace hB := below_step hB k
    go_wp2
    go_ret
    exact ⟨rfl, hB⟩
  · rw [szP_no hb1] at S0
    go_enter Try.func5, Try.ntmps5
    go_wp2_with fail
    refine S0.out.mono ?_
    rintro e w1 ⟨rfl, k1⟩
    go_wp2
    go_ret
    exact ⟨rfl, below_step hB0 k1⟩
end Go.Proofs.Ytdmheaommmnhoaa
