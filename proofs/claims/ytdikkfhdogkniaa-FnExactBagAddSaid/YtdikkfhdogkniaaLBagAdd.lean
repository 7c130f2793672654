/- BagAdd: program and reference return the same, leave their arguments as they were, and what is returned is the caller's own. No conditions. Printed by xlmade.py. -/
import Derived.Test.YtdikkfhdogkniaaSBagAdd
import Derived.Test.YtdikkfhdogkniaaBagAdd
import Derived.Test.YtdikkfhdogkniaaBMark
import Derived.Test.YtdikkfhdogkniaaIntM
import Derived.Deep.RegionHeld3
namespace Go.Proofs.Ytdikkfhdogkniaa
open Go.RowKit

theorem cntB_lput (row : List Int) (t : Int) : ∀ ps : List It, cntB (lput ps row t) ≤ cntB ps + row.length + 1
  | [] => by simp [cntB, lput]
  | x :: ps => by
    have ih := cntB_lput row t ps
    unfold lput
    split
    · simp only [cntB, List.map_cons, List.sum_cons]
      omega
    · split
      · simp only [cntB, List.map_cons, List.sum_cons]
        omega
      · simp only [cntB, List.map_cons, List.sum_cons] at ih ⊢
        omega
theorem addL_small (ps : List It) (row : List Int) (t : Int) : cntB (addL ps row t) ≤ cntB ps + row.length + 1 := by
  by_cases h : AddOk ps row t
  · rw [addL_yes h]; exact cntB_lput row t ps
  · rw [addL_no h]; omega
theorem cntB_len (ps : List It) : ps.length ≤ cntB ps ∧ ∀ p ∈ ps, p.r.length ≤ cntB ps := by
  rw [cntB_eq]
  exact ⟨by omega, fun p hp => by have := sumR_mem hp; omega⟩

set_option maxRecDepth 100000 in
set_option maxHeartbeats 6400000 in
theorem FnExactBagAdd_walk (w : World) (v0 : Value) (ps : List It) (h0 : BgK w v0 ps) (v1 : Value) (row : List Int) (h1 : SlK w .i64 v1 row) (t : Int) (_ht : (Lit.int .i64 t).wf = true) :
    Calls Try.prog 7 #[v0, v1, .int .i64 t] w fun e w' => e = .returned (.bool true) ∧ Below w.heap.size w w' := by
  obtain ⟨A, c, rfl, hx, hlc, hcm, hok⟩ := h0
  obtain ⟨E, n1, m, rfl, hy, hmd, hdm, _⟩ := h1
  have hy0 : RdI w E n1 row := hy
  clear hy
  have hl := hy0.len
  subst hl
  have HX0 := Lib.hid hx
  have HX1 := Lib.hid hy0
  have hk0 : ∀ p ∈ ps, p.r.length ≤ 9223372036854775807 := fun p hp => by have := (hok p hp).2.1; unfold maxLen at this; omega
  clear hok
  unfold maxLen at hcm hdm
  have hB0 := below_alloc w (.cells #[.slice A ps.length c] 24)
  have p0 := heap_alloc_new w (.cells #[.slice A ps.length c] 24)
  have S0 := Lib.hid (szBag_any A c ps 1048576 (w.alloc (.cells #[.slice A ps.length c] 24)) (hx.alloc _) (by omega) (by omega) hk0)
  clear hk0 hx hy0
  by_cases hrl0 : 1048576 < row.length
  · go_enter Try.func7, Try.ntmps7
    go_wp2
    go_ret
    exact ⟨rfl, hB0⟩
  have hrl : row.length ≤ 1048576 := by omega
  clear hrl0
  by_cases hb1 : (ps.length : Int) + sumR ps ≤ 1048576
  · rw [szB_yes hb1] at S0
    have hn : ps.length ≤ 4294967294 := by omega
    have hn' : ps.length ≤ 4294967296 := by omega
    have hn1 : row.length ≤ 4294967296 := by omega
    have HK : Hid (∀ p ∈ ps, p.r.length ≤ 4294967296) := Lib.hid (fun p hp => by have := sumR_mem hp; omega)
    have hq : decide ((1048576 : Int) - (ps.length : Int) - (sumR ps : Int) < 0) = false := decide_eq_false (by omega)
    have hcn0 : cntB ps ≤ 1048576 := by rw [cntB_eq]; omega
    have hcn1 := addL_small ps row t
    have C1 := Lib.hid (fun (w : World) (A0 : Option Addr) (c0 : Nat) (h0 : RdB w A0 ps) (A1 : Option Addr) (c1 : Nat) (h1 : RdI w A1 row.length row) => spec_BagAdd_any A0 A1 c0 c1 ps row t w h0 h1 hn HK.out hn1)
    have C2 := Lib.hid (fun (w : World) (A0 : Option Addr) (c0 : Nat) (h0 : RdB w A0 ps) (A1 : Option Addr) (c1 : Nat) (h1 : RdI w A1 row.length row) => impl_BagAdd_any A0 A1 c0 c1 ps row t w h0 h1 hn' HK.out hn1)
    unfold MadeR2 at C1
    unfold MadeB2 at C2
    obtain ⟨zs, hzs⟩ : ∃ zs, addL ps row t = zs := ⟨_, rfl⟩
    obtain ⟨r, hr⟩ : ∃ r, PP (AddOk ps row t) = r := ⟨_, rfl⟩
    rw [hzs, hr] at C1 C2
    rw [hzs] at hcn1
    have hrr : (r != r) = false := by simp
    have hzl := (cntB_len zs).1
    have HZK : Hid (∀ p ∈ zs, p.r.length ≤ 4294967296) := Lib.hid (fun p hp => by have := (cntB_len zs).2 p hp; omega)
    obtain ⟨cn, hcn⟩ : ∃ n : Nat, cntB ps = n := ⟨_, rfl⟩
    obtain ⟨dn, hdn⟩ : ∃ n : Nat, cntB zs = n := ⟨_, rfl⟩
    rw [hcn] at hcn0 hcn1
    rw [hdn] at hcn1 hzl
    have TO0 := Lib.hid (fun (w : World) (hx : RdB w A ps) => toBag_any A c ps w hx hn' HK.out)
    unfold MadeBag at TO0
    have TO1 := Lib.hid (fun (w : World) (hx : RdI w E row.length row) => toIntS_any E row.length m row w hx hn1)
    unfold MadeI at TO1
    have EQ0 := Lib.hid (fun (A B : Option Addr) (c d : Nat) (w : World) (hx : RdB w A ps) (hy : RdB w B ps) => PP_yes (p := ps = ps) rfl ▸ eqBag_any A B c d ps ps w hx hy hn' HK.out)
    have EQ1 := Lib.hid (fun (A B : Option Addr) (c d : Nat) (w : World) (hx : RdI w A row.length row) (hy : RdI w B row.length row) => eqL_yes (xs := row) (ys := row) rfl ▸ eqIntS_any A B row.length row.length c d row row w hx hy hn1)
    have EQ := Lib.hid (fun (A B : Option Addr) (c d : Nat) (w : World) (hx : RdB w A zs) (hy : RdB w B zs) => PP_yes (p := zs = zs) rfl ▸ eqBag_any A B c d zs zs w hx hy (by omega) HZK.out)
    have MB0 := Lib.hid (fun (lo hi : Nat) (A : Option Addr) (c : Nat) (w : World) (ho : OwnBI w lo hi A c ps) => markBag_any lo hi A c ps 1 w ho (by omega))
    have MB1 := Lib.hid (fun (lo hi : Nat) (A : Option Addr) (c : Nat) (w : World) (ho : OwnII w lo hi A c row) => markInts_any lo hi A c row (1 + (cn : Int)) w ho (by omega) hn1)
    have MB := Lib.hid (fun (lo hi : Nat) (A : Option Addr) (c : Nat) (w : World) (ho : OwnBI w lo hi A c zs) => markBag_any lo hi A c zs 1 w ho (by omega))
    have HB := Lib.hid (fun (A : Option Addr) (c : Nat) (w : World) (hx : RdB w A (markB 1 zs)) => heldBag_any A c zs 1 w hx (by omega))
    unfold MarkedB at MB MB0
    unfold MarkedII at MB1
    rw [hdn] at MB HB
    rw [hcn] at MB0
    have hneg : decide ((1 : Int) + (cn : Int) + (row.length : Int) < 0) = false := decide_eq_false (by omega)
    have hneg2 : decide ((1 : Int) + (dn : Int) < 0) = false := decide_eq_false (by omega)
    have hsame : ((1 : Int) + (dn : Int) != 1 + (dn : Int)) = false := by simp
    clear hb1 hcn hdn hzs hr hzl
    go_enter Try.func7, Try.ntmps7
    go_wp2_with fail
    refine S0.out.mono ?_
    rintro e w1 ⟨rfl, k⟩
    have hB := below_step hB0 k
    have p0 := blk_below k p0
    have hz_p0 := blk_lt p0
    clear k hB0 S0
    have c_p0 := blk_cell (o := 0) p0 rfl
    go_wp2_with fail
    refine (TO0.out _ (HX0.out.keep hB)).mono ?_
    rintro e w2 ⟨U0, u0_, rfl, ru0, k⟩
    clear c_p0
    replace p0 := blk_below k p0
    replace hB := below_step hB k
    have z2 := k.size
    have ru0 := ru0.rd
    clear k
    have c_p0 := blk_cell (o := 0) p0 rfl
    go_wp2_with fail
    refine (TO1.out _ (HX1.out.below hB)).mono ?_
    rintro e w3 ⟨U1, u1_, rfl, ru1, k⟩
    clear c_p0
    replace p0 := blk_below k p0
    replace hB := below_step hB k
    have z3 := k.size
    replace ru0 := ru0.keep k
    have ru1 := (OwnII.of ru1).rd
    clear k
    have c_p0 := blk_cell (o := 0) p0 rfl
    go_wp2_with fail
    refine (C1.out _ U0 u0_ ru0 U1 u1_ ru1).mono ?_
    rintro e w4 ⟨B0, d0, rfl, oB, k⟩
    clear c_p0
    replace p0 := blk_below k p0
    replace hB := below_step hB k
    have z4 := k.size
    clear k
    have ka := below_alloc w4 (.cells #[.slice B0 zs.length d0] 29)
    have qB := heap_alloc_new w4 (.cells #[.slice B0 zs.length d0] 29)
    have zz : w4.heap.size < (w4.alloc (.cells #[.slice B0 zs.length d0] 29)).heap.size := by simp
    replace p0 := blk_below ka p0
    replace oB := oB.keep ka
    replace hB := below_step hB ka
    have z4 := ka.size
    obtain ⟨g4, hg4⟩ : ∃ g, w4.heap.size = g := ⟨_, rfl⟩
    obtain ⟨W4, hW4⟩ : ∃ W, w4.alloc (.cells #[.slice B0 zs.length d0] 29) = W := ⟨_, rfl⟩
    have Hg4 := Lib.hid hg4
    rw [hW4] at p0 oB hB zz qB
    rw [hg4] at zz qB
    try rw [hg4] at oB
    have hz_qB := zz
    clear ka zz z4
    have c_p0 := blk_cell (o := 0) p0 rfl
    have c_qB := blk_cell (o := 0) qB rfl
    go_wp2_with fail
    clear hW4 hg4
    have RB := Lib.hid oB
    clear oB
    have T : Below W4.heap.size W4 W4 := Below.refl _ _
    refine (TO0.out _ (HX0.out.keep hB)).mono ?_
    rintro e w5 ⟨X0, x0, rfl, o0, k⟩
    clear c_p0 c_qB
    have o0 := OwnBI.of o0
    replace p0 := blk_below k p0
    replace qB := blk_below k qB
    replace hB := below_step hB k
    replace T := below_step T k
    have z5 := k.size
    clear k
    have ka := below_alloc w5 (.cells #[.slice X0 ps.length x0] 29)
    have q0 := heap_alloc_new w5 (.cells #[.slice X0 ps.length x0] 29)
    have zz : w5.heap.size < (w5.alloc (.cells #[.slice X0 ps.length x0] 29)).heap.size := by simp
    replace p0 := blk_below ka p0
    replace qB := blk_below ka qB
    replace o0 := o0.keep ka
    replace hB := below_step hB ka
    replace T := below_step T ka
    have z5 := ka.size
    obtain ⟨g5, hg5⟩ : ∃ g, w5.heap.size = g := ⟨_, rfl⟩
    obtain ⟨W5, hW5⟩ : ∃ W, w5.alloc (.cells #[.slice X0 ps.length x0] 29) = W := ⟨_, rfl⟩
    have Hg5 := Lib.hid hg5
    rw [hW5] at p0 qB o0 hB zz q0 T
    rw [hg5] at zz q0
    try rw [hg5] at o0
    have hz_q0 := zz
    clear ka zz z5
    have c_p0 := blk_cell (o := 0) p0 rfl
    have c_qB := blk_cell (o := 0) qB rfl
    have c_q0 := blk_cell (o := 0) q0 rfl
    go_wp2_with fail
    clear hW5 hg5
    refine (TO1.out _ (HX1.out.below hB)).mono ?_
    rintro e w6 ⟨X1, x1, rfl, o1, k⟩
    clear c_p0 c_qB c_q0
    have o1 := OwnII.of o1
    replace p0 := blk_below k p0
    replace qB := blk_below k qB
    replace q0 := blk_below k q0
    replace o0 := o0.keep k
    replace hB := below_step hB k
    replace T := below_step T k
    have z6 := k.size
    clear k
    have c_p0 := blk_cell (o := 0) p0 rfl
    have c_qB := blk_cell (o := 0) qB rfl
    have c_q0 := blk_cell (o := 0) q0 rfl
    go_wp2_with fail
    refine (C2.out _ X0 x0 o0.p.rd X1 x1 o1.rd).mono ?_
    rintro e w7 ⟨B1, d1, rfl, oG, k⟩
    clear c_p0 c_qB c_q0
    have oG := OwnBI.of oG
    replace p0 := blk_below k p0
    replace qB := blk_below k qB
    replace q0 := blk_below k q0
    replace o0 := o0.keep k
    replace o1 := o1.keep k
    replace hB := below_step hB k
    replace T := below_step T k
    have z7 := k.size
    clear k
    have ka := below_alloc w7 (.cells #[.slice B1 zs.length d1] 29)
    have qG := heap_alloc_new w7 (.cells #[.slice B1 zs.length d1] 29)
    have zz : w7.heap.size < (w7.alloc (.cells #[.slice B1 zs.length d1] 29)).heap.size := by simp
    replace p0 := blk_below ka p0
    replace qB := blk_below ka qB
    replace q0 := blk_below ka q0
    replace o0 := o0.keep ka
    replace o1 := o1.keep ka
    replace oG := oG.keep ka
    replace hB := below_step hB ka
    replace T := below_step T ka
    have z7 := ka.size
    obtain ⟨g7, hg7⟩ : ∃ g, w7.heap.size = g := ⟨_, rfl⟩
    obtain ⟨W7, hW7⟩ : ∃ W, w7.alloc (.cells #[.slice B1 zs.length d1] 29) = W := ⟨_, rfl⟩
    have Hg7 := Lib.hid hg7
    rw [hW7] at p0 qB q0 o0 o1 oG hB zz qG T
    rw [hg7] at zz qG
    try rw [hg7] at o0
    try rw [hg7] at o1
    try rw [hg7] at oG
    have hz_qG := zz
    clear ka zz z7
    have c_p0 := blk_cell (o := 0) p0 rfl
    have c_qB := blk_cell (o := 0) qB rfl
    have c_q0 := blk_cell (o := 0) q0 rfl
    have c_qG := blk_cell (o := 0) qG rfl
    go_wp2_with fail
    clear hW7 hg7
    refine (EQ.out B1 B0 d1 d0 _ oG.p.rd (RB.out.keep T)).mono ?_
    rintro e w8 ⟨rfl, k⟩
    clear c_p0 c_qB c_q0 c_qG
    replace p0 := blk_below k p0
    replace qB := blk_below k qB
    replace q0 := blk_below k q0
    replace qG := blk_below k qG
    replace o0 := o0.keep k
    replace o1 := o1.keep k
    replace oG := oG.keep k
    replace hB := below_step hB k
    replace T := below_step T k
    have z8 := k.size
    clear k
    have MK := Lib.hid (fun (w' : World) (hk : Below w8.heap.size w8 w') => (⟨blk_cell (o := 0) (blk_below hk p0) rfl, blk_cell (o := 0) (blk_below hk q0) rfl, hk⟩ : w'.cell? ⟨w.heap.size, 0, none⟩ = some (.slice A ps.length c) ∧ w'.cell? ⟨g5, 0, none⟩ = some (.slice X0 ps.length x0) ∧ Below w8.heap.size w8 w'))
    have B0' : Below w8.heap.size w8 w8.drew := (Below.refl _ _).drew
    have RX := Lib.hid o0.p.rd
    have HBc := Lib.hid hB
    have EQX := Lib.hid (fun (A3 : Option Addr) (c3 : Nat) (w' : World) (hk : Below w8.heap.size w8 w') h => EQ0.out X0 A3 x0 c3 w' (RX.out.keep hk) h)
    have c_p0 := blk_cell (o := 0) p0 rfl
    have c_qB := blk_cell (o := 0) qB rfl
    have c_q0 := blk_cell (o := 0) q0 rfl
    have c_qG := blk_cell (o := 0) qG rfl
    go_wp2_with fail
    go_region_held3 (fun w' => w'.cell? ⟨w.heap.size, 0, none⟩ = some (.slice A ps.length c) ∧ w'.cell? ⟨g5, 0, none⟩ = some (.slice X0 ps.length x0) ∧ Below w8.heap.size w8 w')
      ((first
        | (exact MK.out _ B0')
        | assumption
        | (go_split_ands; exact MK.out _ (below_step (by assumption) hbk))))
      ((first
        | (go_at_call 14; go_split_ands; refine (TO0.out _ (HX0.out.keep (below_step HBc.out (by assumption)))).mono ?_; rintro e w' ⟨A3, c3, rfl, o3, hbk⟩; have r3 := o3.rd; clear o3)
        | (go_at_call 16; go_split_ands; refine (EQX.out _ _ _ (by assumption) r3).mono ?_; rintro e w' ⟨rfl, hbk⟩)))
    obtain ⟨w9, rfl⟩ : ∃ wq : World, wq = w' := ⟨_, rfl⟩
    go_split_ands
    have U : Below w8.heap.size w8 w9 := by assumption
    clear c_p0 c_qB c_q0 c_qG MK B0' RX HBc EQX
    replace p0 := blk_below U p0
    replace qB := blk_below U qB
    replace q0 := blk_below U q0
    replace qG := blk_below U qG
    replace o0 := o0.keep U
    replace o1 := o1.keep U
    replace oG := oG.keep U
    replace hB := below_step hB U
    replace T := below_step T U
    have z9 := U.size
    clear U
    have c_p0 := blk_cell (o := 0) p0 rfl
    have c_qB := blk_cell (o := 0) qB rfl
    have c_q0 := blk_cell (o := 0) q0 rfl
    have c_qG := blk_cell (o := 0) qG rfl
    go_wp2_with fail
    refine (TO1.out _ (HX1.out.below hB)).mono ?_
    rintro e w10 ⟨Y1, y1, rfl, oy, k⟩
    clear c_p0 c_qB c_q0 c_qG
    replace p0 := blk_below k p0
    replace qB := blk_below k qB
    replace q0 := blk_below k q0
    replace qG := blk_below k qG
    replace o0 := o0.keep k
    replace o1 := o1.keep k
    replace oG := oG.keep k
    replace hB := below_step hB k
    replace T := below_step T k
    have z10 := k.size
    have ry := (OwnII.of oy).rd
    clear k oy
    have c_p0 := blk_cell (o := 0) p0 rfl
    have c_qB := blk_cell (o := 0) qB rfl
    have c_q0 := blk_cell (o := 0) q0 rfl
    have c_qG := blk_cell (o := 0) qG rfl
    go_wp2_with fail
    refine (EQ1.out X1 Y1 x1 y1 _ o1.rd ry).mono ?_
    rintro e w11 ⟨rfl, k⟩
    clear c_p0 c_qB c_q0 c_qG
    replace p0 := blk_below k p0
    replace qB := blk_below k qB
    replace q0 := blk_below k q0
    replace qG := blk_below k qG
    replace o0 := o0.keep k
    replace o1 := o1.keep k
    replace oG := oG.keep k
    replace hB := below_step hB k
    replace T := below_step T k
    have z11 := k.size
    clear k ry
    have c_p0 := blk_cell (o := 0) p0 rfl
    have c_qB := blk_cell (o := 0) qB rfl
    have c_q0 := blk_cell (o := 0) q0 rfl
    have c_qG := blk_cell (o := 0) qG rfl
    go_wp2_with fail
    refine (MB0.out _ _ X0 x0 _ o0).mono ?_
    rintro e w12 ⟨rfl, _, t⟩
    clear c_p0 c_qB c_q0 c_qG
    replace p0 := t.blk p0 (by have e0 := Hg4.out; have e1 := Hg5.out; have e2 := Hg7.out; omega)
    replace qB := t.blk qB (by have e0 := Hg4.out; have e1 := Hg5.out; have e2 := Hg7.out; omega)
    replace q0 := t.blk q0 (by have e0 := Hg4.out; have e1 := Hg5.out; have e2 := Hg7.out; omega)
    replace qG := t.blk qG (by have e0 := Hg4.out; have e1 := Hg5.out; have e2 := Hg7.out; omega)
    replace o1 := o1.touch t (by have e0 := Hg4.out; have e1 := Hg5.out; have e2 := Hg7.out; omega)
    replace oG := oG.touch t (by have e0 := Hg4.out; have e1 := Hg5.out; have e2 := Hg7.out; omega)
    replace hB := hB.trans ((t.below (by have e0 := Hg4.out; have e1 := Hg5.out; have e2 := Hg7.out; omega)).mono (by have e0 := Hg4.out; have e1 := Hg5.out; have e2 := Hg7.out; omega))
    replace T := T.trans ((t.below (by have e0 := Hg4.out; have e1 := Hg5.out; have e2 := Hg7.out; omega)).mono (by have e0 := Hg4.out; have e1 := Hg5.out; have e2 := Hg7.out; omega))
    have z12 := t.size
    clear t o0
    have c_p0 := blk_cell (o := 0) p0 rfl
    have c_qB := blk_cell (o := 0) qB rfl
    have c_q0 := blk_cell (o := 0) q0 rfl
    have c_qG := blk_cell (o := 0) qG rfl
    go_wp2_with fail
    refine (MB1.out _ _ X1 x1 _ o1).mono ?_
    rintro e w13 ⟨rfl, _, t⟩
    clear c_p0 c_qB c_q0 c_qG
    replace p0 := t.blk p0 (by have e0 := Hg4.out; have e1 := Hg5.out; have e2 := Hg7.out; omega)
    replace qB := t.blk qB (by have e0 := Hg4.out; have e1 := Hg5.out; have e2 := Hg7.out; omega)
    replace q0 := t.blk q0 (by have e0 := Hg4.out; have e1 := Hg5.out; have e2 := Hg7.out; omega)
    replace qG := t.blk qG (by have e0 := Hg4.out; have e1 := Hg5.out; have e2 := Hg7.out; omega)
    replace oG := oG.touch t (by have e0 := Hg4.out; have e1 := Hg5.out; have e2 := Hg7.out; omega)
    replace hB := hB.trans ((t.below (by have e0 := Hg4.out; have e1 := Hg5.out; have e2 := Hg7.out; omega)).mono (by have e0 := Hg4.out; have e1 := Hg5.out; have e2 := Hg7.out; omega))
    replace T := T.trans ((t.below (by have e0 := Hg4.out; have e1 := Hg5.out; have e2 := Hg7.out; omega)).mono (by have e0 := Hg4.out; have e1 := Hg5.out; have e2 := Hg7.out; omega))
    have z13 := t.size
    clear t o1
    have c_p0 := blk_cell (o := 0) p0 rfl
    have c_qB := blk_cell (o := 0) qB rfl
    have c_q0 := blk_cell (o := 0) q0 rfl
    have c_qG := blk_cell (o := 0) qG rfl
    go_wp2_with fail
    refine (EQ.out B1 B0 d1 d0 _ oG.p.rd (RB.out.keep T)).mono ?_
    rintro e w14 ⟨rfl, k⟩
    clear c_p0 c_qB c_q0 c_qG
    replace p0 := blk_below k p0
    replace qB := blk_below k qB
    replace q0 := blk_below k q0
    replace qG := blk_below k qG
    replace oG := oG.keep k
    replace hB := below_step hB k
    replace T := below_step T k
    have z14 := k.size
    clear k
    have c_p0 := blk_cell (o := 0) p0 rfl
    have c_qB := blk_cell (o := 0) qB rfl
    have c_q0 := blk_cell (o := 0) q0 rfl
    have c_qG := blk_cell (o := 0) qG rfl
    go_wp2_with fail
    refine (MB.out _ _ B1 d1 _ oG).mono ?_
    rintro e w15 ⟨rfl, oM, t⟩
    clear c_p0 c_qB c_q0 c_qG
    replace p0 := t.blk p0 (by have e0 := Hg4.out; have e1 := Hg5.out; have e2 := Hg7.out; omega)
    replace qB := t.blk qB (by have e0 := Hg4.out; have e1 := Hg5.out; have e2 := Hg7.out; omega)
    replace q0 := t.blk q0 (by have e0 := Hg4.out; have e1 := Hg5.out; have e2 := Hg7.out; omega)
    replace qG := t.blk qG (by have e0 := Hg4.out; have e1 := Hg5.out; have e2 := Hg7.out; omega)
    replace hB := hB.trans ((t.below (by have e0 := Hg4.out; have e1 := Hg5.out; have e2 := Hg7.out; omega)).mono (by have e0 := Hg4.out; have e1 := Hg5.out; have e2 := Hg7.out; omega))
    replace T := T.trans ((t.below (by have e0 := Hg4.out; have e1 := Hg5.out; have e2 := Hg7.out; omega)).mono (by have e0 := Hg4.out; have e1 := Hg5.out; have e2 := Hg7.out; omega))
    have z15 := t.size
    clear t oG
    have c_p0 := blk_cell (o := 0) p0 rfl
    have c_qB := blk_cell (o := 0) qB rfl
    have c_q0 := blk_cell (o := 0) q0 rfl
    have c_qG := blk_cell (o := 0) qG rfl
    go_wp2_with fail
    refine (HB.out B1 d1 _ oM.p.rd).mono ?_
    rintro e w16 ⟨rfl, k⟩
    clear c_p0 c_qB c_q0 c_qG
    replace p0 := blk_below k p0
    replace qB := blk_below k qB
    replace q0 := blk_below k q0
    replace qG := blk_below k qG
    replace oM := oM.keep k
    replace hB := below_step hB k
    replace T := below_step T k
    have z16 := k.size
    clear k
    have c_p0 := blk_cell (o := 0) p0 rfl
    have c_qB := blk_cell (o := 0) qB rfl
    have c_q0 := blk_cell (o := 0) q0 rfl
    have c_qG := blk_cell (o := 0) qG rfl
    go_wp2_with fail
    refine (TO0.out _ (HX0.out.keep hB)).mono ?_
    rintro e w17 ⟨V0, v0_, rfl, rv0, k⟩
    clear c_p0 c_qB c_q0 c_qG
    replace p0 := blk_below k p0
    replace qB := blk_below k qB
    replace q0 := blk_below k q0
    replace qG := blk_below k qG
    replace oM := oM.keep k
    replace hB := below_step hB k
    replace T := below_step T k
    have z17 := k.size
    have rv0 := rv0.rd
    clear k
    have c_p0 := blk_cell (o := 0) p0 rfl
    have c_qB := blk_cell (o := 0) qB rfl
    have c_q0 := blk_cell (o := 0) q0 rfl
    have c_qG := blk_cell (o := 0) qG rfl
    go_wp2_with fail
    refine (TO1.out _ (HX1.out.below hB)).mono ?_
    rintro e w18 ⟨V1, v1_, rfl, rv1, k⟩
    clear c_p0 c_qB c_q0 c_qG
    replace p0 := blk_below k p0
    replace qB := blk_below k qB
    replace q0 := blk_below k q0
    replace qG := blk_below k qG
    replace oM := oM.keep k
    replace hB := below_step hB k
    replace T := below_step T k
    have z18 := k.size
    replace rv0 := rv0.keep k
    have rv1 := (OwnII.of rv1).rd
    clear k
    have c_p0 := blk_cell (o := 0) p0 rfl
    have c_qB := blk_cell (o := 0) qB rfl
    have c_q0 := blk_cell (o := 0) q0 rfl
    have c_qG := blk_cell (o := 0) qG rfl
    go_wp2_with fail
    refine (C2.out _ V0 v0_ rv0 V1 v1_ rv1).mono ?_
    rintro e w19 ⟨B2, d2, rfl, oH, k⟩
    clear c_p0 c_qB c_q0 c_qG
    replace p0 := blk_below k p0
    replace qB := blk_below k qB
    replace q0 := blk_below k q0
    replace qG := blk_below k qG
    replace oM := oM.keep k
    replace hB := below_step hB k
    replace T := below_step T k
    have z19 := k.size
    clear k
    have ka := below_alloc w19 (.cells #[.slice B2 zs.length d2] 29)
    have qH := heap_alloc_new w19 (.cells #[.slice B2 zs.length d2] 29)
    have zz : w19.heap.size < (w19.alloc (.cells #[.slice B2 zs.length d2] 29)).heap.size := by simp
    replace p0 := blk_below ka p0
    replace qB := blk_below ka qB
    replace q0 := blk_below ka q0
    replace qG := blk_below ka qG
    replace oM := oM.keep ka
    replace oH := oH.keep ka
    replace hB := below_step hB ka
    replace T := below_step T ka
    have z19 := ka.size
    obtain ⟨g19, hg19⟩ : ∃ g, w19.heap.size = g := ⟨_, rfl⟩
    obtain ⟨W19, hW19⟩ : ∃ W, w19.alloc (.cells #[.slice B2 zs.length d2] 29) = W := ⟨_, rfl⟩
    have Hg19 := Lib.hid hg19
    rw [hW19] at p0 qB q0 qG oM oH hB zz qH T
    rw [hg19] at zz qH
    try rw [hg19] at oM
    try rw [hg19] at oH
    have hz_qH := zz
    clear ka zz z19
    have c_p0 := blk_cell (o := 0) p0 rfl
    have c_qB := blk_cell (o := 0) qB rfl
    have c_q0 := blk_cell (o := 0) q0 rfl
    have c_qG := blk_cell (o := 0) qG rfl
    have c_qH := blk_cell (o := 0) qH rfl
    go_wp2_with fail
    clear hW19 hg19
    refine (EQ.out B2 B0 d2 d0 _ oH.rd (RB.out.keep T)).mono ?_
    rintro e w20 ⟨rfl, k⟩
    clear c_p0 c_qB c_q0 c_qG c_qH
    replace p0 := blk_below k p0
    replace qB := blk_below k qB
    replace q0 := blk_below k q0
    replace qG := blk_below k qG
    replace qH := blk_below k qH
    replace oM := oM.keep k
    replace hB := below_step hB k
    replace T := below_step T k
    have z20 := k.size
    clear k oH
    have c_p0 := blk_cell (o := 0) p0 rfl
    have c_qB := blk_cell (o := 0) qB rfl
    have c_q0 := blk_cell (o := 0) q0 rfl
    have c_qG := blk_cell (o := 0) qG rfl
    have c_qH := blk_cell (o := 0) qH rfl
    go_wp2_with fail
    refine (HB.out B1 d1 _ oM.p.rd).mono ?_
    rintro e w21 ⟨rfl, k⟩
    clear c_p0 c_qB c_q0 c_qG c_qH
    replace hB := below_step hB k
    go_wp2
    go_ret
    exact ⟨rfl, hB⟩
  · rw [szB_no hb1] at S0
    go_enter Try.func7, Try.ntmps7
    go_wp2_with fail
    refine S0.out.mono ?_
    rintro e w1 ⟨rfl, k1⟩
    go_wp2
    go_ret
    exact ⟨rfl, below_step hB0 k1⟩
end Go.Proofs.Ytdikkfhdogkniaa
