/- Together: program and reference return the same, leave their arguments as they were, and what is returned is the caller's own. No conditions. Printed by xltog.py. -/
import Derived.Test.YtlnphcongijfiaaTgI
import Derived.Test.YtlnphcongijfiaaTgS
import Derived.Test.YtlnphcongijfiaaGrM
namespace Go.Proofs.Ytlnphcongijfiaa
open Go.RowKit

/-- A row of edges that lies in blocks from lo up to hi. -/
def OwnEI (w : World) (lo hi : Nat) (A : Option Addr) (c : Nat) (es : List Ed) : Prop :=
  w.ownsRow lo 62 3 (.slice A es.length c) es.length (edCells es) ∧ ∀ r, (Value.slice A es.length c).ownBlock = some r → r < hi
theorem OwnEI.of {w : World} {lo c : Nat} {A : Option Addr} {es : List Ed} (h : w.ownsRow lo 62 3 (.slice A es.length c) es.length (edCells es)) : OwnEI w lo w.heap.size A c es := ⟨h, fun r hr => (h.lt r hr).2⟩
theorem OwnEI.keep {w w' : World} {lo hi c : Nat} {A : Option Addr} {es : List Ed} (h : OwnEI w lo hi A c es) (hb : Below w.heap.size w w') : OwnEI w' lo hi A c es := ⟨own_below h.1 hb, h.2⟩
theorem OwnEI.touch {w w' : World} {lo hi lo' hi' c : Nat} {A : Option Addr} {es : List Ed} (h : OwnEI w lo hi A c es) (ht : Touch lo' hi' w w') (hb : hi' ≤ lo) : OwnEI w' lo hi A c es := ⟨ht.own h.1 hb, h.2⟩
theorem OwnEI.rd {w : World} {lo hi c : Nat} {A : Option Addr} {es : List Ed} (h : OwnEI w lo hi A c es) : RdE w A es := Rd.of_own h.1
theorem markGraph_own (lo hi : Nat) (s : Int) (A : Option Addr) (c : Nat) (es : List Ed) (w : World) (h : OwnEI w lo hi A c es) (hn : es.length ≤ 4294967296) :
    Calls Try.prog 26 #[.agg #[.int .i64 s, .slice A es.length c], .int .i64 1] w fun e w' => e = .returned (.int .i64 (1 + 3 * es.length)) ∧ (OwnEI w' lo hi A c (marksE 1 es.length)) ∧ Touch lo hi w w' := by
  refine (markGraph_any lo s A es.length c _ 1 w h.1 (by omega) hn).mono ?_
  rintro e w' ⟨rfl, ho, hg⟩
  refine ⟨rfl, ⟨by rw [marksE_len]; exact ho, by rw [marksE_len]; exact h.2⟩, (Touch.refl lo hi w).grown hg (fun k hk => ⟨(h.1.lt k hk).1, h.2 k hk⟩)⟩

set_option maxRecDepth 100000 in
set_option maxHeartbeats 6400000 in
theorem FnExactTogether_walk (w : World) (v0 : Value) (gs : List Gr) (h0 : GsK w v0 gs) :
    Calls Try.prog 5 #[v0] w fun e w' => e = .returned (.bool true) ∧ Below w.heap.size w w' := by
  obtain ⟨A, c, rfl, hx, hl, hm, hok⟩ := h0
  unfold maxLen at hm
  have HX := Lib.hid hx
  have S0 := Lib.hid (szGraphS_any A c gs 1048576 w hx (by omega) (by omega) (fun p hp => by have := (hok p hp).2.1; unfold maxLen at this; omega))
  clear hx
  by_cases hfit : (gs.length : Int) + sumG gs ≤ 1048576
  · rw [szG_yes hfit] at S0
    have hkl : ∀ p ∈ gs, p.e.length ≤ 1048576 := fun p hp => by have := sumG_mem hp; omega
    have hlb : ∀ g ∈ gs, g.e.length ≤ 1048576 ∧ ∀ e ∈ g.e, 0 ≤ e.l ∧ e.l ≤ 255 := fun g hg => ⟨hkl g hg, fun e he => ((hok g hg).2.2 e he).2.1⟩
    have hgn : gs.length ≤ 1048576 := by omega
    have hq : decide ((1048576 : Int) - (gs.length : Int) - (sumG gs : Int) < 0) = false := decide_eq_false (by omega)
    obtain ⟨sz, hsz⟩ : ∃ z, (1048576 : Int) - (gs.length : Int) - (sumG gs : Int) = z := ⟨_, rfl⟩
    have hsz0 : 0 ≤ sz := by omega
    rw [hsz] at S0
    have C1 := Lib.hid (fun (w : World) (U : Option Addr) (u : Nat) (h : RdG w U gs) => spec_Together_any U u gs w h hgn (by omega) hlb)
    have C2 := Lib.hid (fun (w : World) (U : Option Addr) (u : Nat) (h : RdG w U gs) => impl_Together_any U u gs w h hgn hlb)
    unfold TgOut MadeT at C1 C2
    have hL0 : (tgL gs).length ≤ 1048576 := by
      unfold tgL
      split
      · have := putG_len gs; omega
      · simp
    obtain ⟨L, hL⟩ : ∃ L, tgL gs = L := ⟨_, rfl⟩
    obtain ⟨s, hs⟩ : ∃ s, tgS gs = s := ⟨_, rfl⟩
    obtain ⟨b, hb⟩ : ∃ b, tgB gs = b := ⟨_, rfl⟩
    rw [hL, hs, hb] at C1 C2
    rw [hL] at hL0
    have TO := Lib.hid (fun (w : World) (h : RdG w A gs) => toGraphS_any A c gs w h (by omega) (fun p hp => by have := hkl p hp; omega))
    unfold MadeGS at TO
    have EQ := Lib.hid (fun (A0 : Option Addr) (c0 : Nat) (B0 : Option Addr) (d0 : Nat) (w : World) (h : RdE w A0 L) (h' : RdE w B0 L) => by have := eqGraph_any s s A0 B0 c0 d0 L L w h h' (by omega) (by omega); rw [eqE_yes rfl, show (decide (s = s) && true) = true by simp] at this; exact this)
    have EQS := Lib.hid (fun (A0 : Option Addr) (c0 : Nat) (B0 : Option Addr) (d0 : Nat) (w : World) (h : RdG w A0 gs) (h' : RdG w B0 gs) => by have := eqGraphS_any A0 B0 c0 d0 gs gs w h h' (by omega) (fun p hp => by have := hkl p hp; omega) (fun p hp => by have := hkl p hp; omega); rw [PP_yes rfl] at this; exact this)
    have hcn := cntG_eq gs
    have MS := Lib.hid (fun (lo hi : Nat) (A0 : Option Addr) (c0 : Nat) (w : World) (h : OwnGI w lo hi A0 c0 gs) => markGraphS_any lo hi A0 c0 gs 1 w h ⟨by omega, by omega⟩)
    unfold MarkedGS at MS
    have MB := Lib.hid (fun (lo hi : Nat) (A0 : Option Addr) (c0 : Nat) (w : World) (h : OwnEI w lo hi A0 c0 L) => markGraph_own lo hi s A0 c0 L w h (by omega))
    have HB := Lib.hid (fun (A0 : Option Addr) (c0 : Nat) (w : World) {lo hi : Nat} (h : OwnEI w lo hi A0 c0 (marksE 1 L.length)) => heldGraph_any s A0 L.length c0 1 w h.rd (by omega) (by omega))
    obtain ⟨km, hkm⟩ : ∃ km, (1 : Int) + (cntG gs : Int) = km := ⟨_, rfl⟩
    have hkm0 : 0 ≤ km := by omega
    rw [hkm] at MS
    obtain ⟨ln, hln⟩ : ∃ n, (1 : Int) + 3 * (L.length : Int) = n := ⟨_, rfl⟩
    have hln0 : 0 ≤ ln := by omega
    rw [hln] at MB HB
    obtain ⟨ms, hms⟩ : ∃ ms, marksE 1 L.length = ms := ⟨_, rfl⟩
    rw [hms] at MB HB
    have n2 : (!(b == b)) = false := by simp
    have n3 : (ln != ln) = false := by simp
    clear hL hs hb hkm hln hms hcn hsz hq hkl hlb hok hfit
    go_enter Try.func5, Try.ntmps5
    go_wp2_with fail
    refine (S0.out).mono ?_
    rintro e w1 ⟨rfl, k⟩
    have z1 := k.size
    have hB := k
    clear k
    go_wp2_with fail
    refine (TO.out _ (HX.out.keep hB)).mono ?_
    rintro e w2 ⟨U, u, rfl, oU, k⟩
    replace hB := below_step hB k
    have z2 := k.size
    have rU := oU.rd
    clear k oU
    go_wp2_with fail
    refine (C1.out _ U u rU).mono ?_
    rintro e w3 ⟨B0, b0, rfl, oB, k⟩
    replace hB := below_step hB k
    have z3 := k.size
    clear k rU
    have oB := OwnEI.of oB
    have ka := below_alloc w3 (.cells #[.int .i64 s, .slice B0 L.length b0] 44)
    have qB := heap_alloc_new w3 (.cells #[.int .i64 s, .slice B0 L.length b0] 44)
    have zz : w3.heap.size < (w3.alloc (.cells #[.int .i64 s, .slice B0 L.length b0] 44)).heap.size := by simp
    replace oB := oB.keep ka
    replace hB := below_step hB ka
    have z3 := ka.size
    obtain ⟨g3, hg3⟩ : ∃ g, w3.heap.size = g := ⟨_, rfl⟩
    obtain ⟨W3, hW3⟩ : ∃ W, w3.alloc (.cells #[.int .i64 s, .slice B0 L.length b0] 44) = W := ⟨_, rfl⟩
    have Hg3 := Lib.hid hg3
    rw [hW3] at oB hB zz qB
    rw [hg3] at zz qB
    try rw [hg3] at oB
    have hz_qB := zz
    clear ka zz
    have c_qB_0 := blk_cell (o := 0) qB rfl
    have c_qB_1 := blk_cell (o := 1) qB rfl
    go_wp2_with fail
    clear hW3 hg3
    have RB := Lib.hid oB.rd
    clear oB
    have T : Below W3.heap.size W3 W3 := Below.refl _ _
    refine (TO.out _ (HX.out.keep hB)).mono ?_
    rintro e w4 ⟨X, x, rfl, oX, k⟩
    clear c_qB_0 c_qB_1
    have oX := OwnGI.of oX
    replace qB := blk_below k qB
    replace hB := below_step hB k
    replace T := below_step T k
    have z4 := k.size
    clear k
    have c_qB_0 := blk_cell (o := 0) qB rfl
    have c_qB_1 := blk_cell (o := 1) qB rfl
    go_wp2_with fail
    refine (C2.out _ X x oX.p.rd).mono ?_
    rintro e w5 ⟨G, g, rfl, oG, k⟩
    clear c_qB_0 c_qB_1
    have oG := OwnEI.of oG
    replace qB := blk_below k qB
    replace oX := oX.keep k
    replace hB := below_step hB k
    replace T := below_step T k
    have z5 := k.size
    clear k
    have ka := below_alloc w5 (.cells #[.int .i64 s, .slice G L.length g] 44)
    have qG := heap_alloc_new w5 (.cells #[.int .i64 s, .slice G L.length g] 44)
    have zz : w5.heap.size < (w5.alloc (.cells #[.int .i64 s, .slice G L.length g] 44)).heap.size := by simp
    replace qB := blk_below ka qB
    replace oX := oX.keep ka
    replace oG := oG.keep ka
    replace hB := below_step hB ka
    replace T := below_step T ka
    have z5 := ka.size
    obtain ⟨g5, hg5⟩ : ∃ g, w5.heap.size = g := ⟨_, rfl⟩
    obtain ⟨W5, hW5⟩ : ∃ W, w5.alloc (.cells #[.int .i64 s, .slice G L.length g] 44) = W := ⟨_, rfl⟩
    have Hg5 := Lib.hid hg5
    rw [hW5] at qB oX oG hB zz qG T
    rw [hg5] at zz qG
    try rw [hg5] at oX
    try rw [hg5] at oG
    have hz_qG := zz
    clear ka zz
    have c_qB_0 := blk_cell (o := 0) qB rfl
    have c_qB_1 := blk_cell (o := 1) qB rfl
    have c_qG_0 := blk_cell (o := 0) qG rfl
    have c_qG_1 := blk_cell (o := 1) qG rfl
    go_wp2_with fail
    clear hW5 hg5
    refine (EQ.out G g B0 b0 _ oG.rd (RB.out.below T)).mono ?_
    rintro e w6 ⟨rfl, k⟩
    clear c_qB_0 c_qB_1 c_qG_0 c_qG_1
    replace qB := blk_below k qB
    replace qG := blk_below k qG
    replace oX := oX.keep k
    replace oG := oG.keep k
    replace hB := below_step hB k
    replace T := below_step T k
    have z6 := k.size
    clear k
    have c_qB_0 := blk_cell (o := 0) qB rfl
    have c_qB_1 := blk_cell (o := 1) qB rfl
    have c_qG_0 := blk_cell (o := 0) qG rfl
    have c_qG_1 := blk_cell (o := 1) qG rfl
    go_wp2_with fail
    refine (TO.out _ (HX.out.keep hB)).mono ?_
    rintro e w7 ⟨Y, y, rfl, oY, k⟩
    clear c_qB_0 c_qB_1 c_qG_0 c_qG_1
    replace qB := blk_below k qB
    replace qG := blk_below k qG
    replace oX := oX.keep k
    replace oG := oG.keep k
    replace hB := below_step hB k
    replace T := below_step T k
    have z7 := k.size
    have rY := Lib.hid oY.rd
    clear oY k
    have c_qB_0 := blk_cell (o := 0) qB rfl
    have c_qB_1 := blk_cell (o := 1) qB rfl
    have c_qG_0 := blk_cell (o := 0) qG rfl
    have c_qG_1 := blk_cell (o := 1) qG rfl
    go_wp2_with fail
    refine (EQS.out X x Y y _ oX.p.rd rY.out).mono ?_
    rintro e w8 ⟨rfl, k⟩
    clear c_qB_0 c_qB_1 c_qG_0 c_qG_1
    replace qB := blk_below k qB
    replace qG := blk_below k qG
    replace oX := oX.keep k
    replace oG := oG.keep k
    replace hB := below_step hB k
    replace T := below_step T k
    have z8 := k.size
    clear k
    clear rY
    have c_qB_0 := blk_cell (o := 0) qB rfl
    have c_qB_1 := blk_cell (o := 1) qB rfl
    have c_qG_0 := blk_cell (o := 0) qG rfl
    have c_qG_1 := blk_cell (o := 1) qG rfl
    go_wp2_with fail
    refine (MS.out _ _ X x _ oX).mono ?_
    rintro e w9 ⟨rfl, _, t⟩
    clear c_qB_0 c_qB_1 c_qG_0 c_qG_1
    replace qB := t.blk qB (by have e0 := Hg3.out; have e1 := Hg5.out; omega)
    replace qG := t.blk qG (by have e0 := Hg3.out; have e1 := Hg5.out; omega)
    replace oG := oG.touch t (by have e0 := Hg3.out; have e1 := Hg5.out; omega)
    replace hB := hB.trans ((t.below (by have e0 := Hg3.out; have e1 := Hg5.out; omega)).mono (by have e0 := Hg3.out; have e1 := Hg5.out; omega))
    replace T := T.trans ((t.below (by have e0 := Hg3.out; have e1 := Hg5.out; omega)).mono (by have e0 := Hg3.out; have e1 := Hg5.out; omega))
    have z9 := t.size
    clear t oX
    have c_qB_0 := blk_cell (o := 0) qB rfl
    have c_qB_1 := blk_cell (o := 1) qB rfl
    have c_qG_0 := blk_cell (o := 0) qG rfl
    have c_qG_1 := blk_cell (o := 1) qG rfl
    go_wp2_with fail
    refine (EQ.out G g B0 b0 _ oG.rd (RB.out.below T)).mono ?_
    rintro e w10 ⟨rfl, k⟩
    clear c_qB_0 c_qB_1 c_qG_0 c_qG_1
    replace qB := blk_below k qB
    replace qG := blk_below k qG
    replace oG := oG.keep k
    replace hB := below_step hB k
    replace T := below_step T k
    have z10 := k.size
    clear k
    have c_qB_0 := blk_cell (o := 0) qB rfl
    have c_qB_1 := blk_cell (o := 1) qB rfl
    have c_qG_0 := blk_cell (o := 0) qG rfl
    have c_qG_1 := blk_cell (o := 1) qG rfl
    go_wp2_with fail
    refine (MB.out _ _ G g _ oG).mono ?_
    rintro e w11 ⟨rfl, oM, t⟩
    clear c_qB_0 c_qB_1 c_qG_0 c_qG_1
    replace qB := t.blk qB (by have e0 := Hg3.out; have e1 := Hg5.out; omega)
    replace qG := t.blk qG (by have e0 := Hg3.out; have e1 := Hg5.out; omega)
    replace hB := hB.trans ((t.below (by have e0 := Hg3.out; have e1 := Hg5.out; omega)).mono (by have e0 := Hg3.out; have e1 := Hg5.out; omega))
    replace T := T.trans ((t.below (by have e0 := Hg3.out; have e1 := Hg5.out; omega)).mono (by have e0 := Hg3.out; have e1 := Hg5.out; omega))
    have z11 := t.size
    clear t oG
    have c_qB_0 := blk_cell (o := 0) qB rfl
    have c_qB_1 := blk_cell (o := 1) qB rfl
    have c_qG_0 := blk_cell (o := 0) qG rfl
    have c_qG_1 := blk_cell (o := 1) qG rfl
    go_wp2_with fail
    refine (HB.out G g _ oM).mono ?_
    rintro e w12 ⟨rfl, k⟩
    clear c_qB_0 c_qB_1 c_qG_0 c_qG_1
    replace qB := blk_below k qB
    replace qG := blk_below k qG
    replace oM := oM.keep k
    replace hB := below_step hB k
    replace T := below_step T k
    have z12 := k.size
    clear k
    have c_qB_0 := blk_cell (o := 0) qB rfl
    have c_qB_1 := blk_cell (o := 1) qB rfl
    have c_qG_0 := blk_cell (o := 0) qG rfl
    have c_qG_1 := blk_cell (o := 1) qG rfl
    go_wp2_with fail
    refine (TO.out _ (HX.out.keep hB)).mono ?_
    rintro e w13 ⟨V, v, rfl, oV, k⟩
    clear c_qB_0 c_qB_1 c_qG_0 c_qG_1
    replace qB := blk_below k qB
    replace qG := blk_below k qG
    replace oM := oM.keep k
    replace hB := below_step hB k
    replace T := below_step T k
    have z13 := k.size
    have rV := oV.rd
    clear k oV
    have c_qB_0 := blk_cell (o := 0) qB rfl
    have c_qB_1 := blk_cell (o := 1) qB rfl
    have c_qG_0 := blk_cell (o := 0) qG rfl
    have c_qG_1 := blk_cell (o := 1) qG rfl
    go_wp2_with fail
    refine (C2.out _ V v rV).mono ?_
    rintro e w14 ⟨H, h, rfl, oH, k⟩
    clear c_qB_0 c_qB_1 c_qG_0 c_qG_1
    have oH := OwnEI.of oH
    replace qB := blk_below k qB
    replace qG := blk_below k qG
    replace oM := oM.keep k
    replace hB := below_step hB k
    replace T := below_step T k
    have z14 := k.size
    clear k
    clear rV
    have ka := below_alloc w14 (.cells #[.int .i64 s, .slice H L.length h] 44)
    have qH := heap_alloc_new w14 (.cells #[.int .i64 s, .slice H L.length h] 44)
    have zz : w14.heap.size < (w14.alloc (.cells #[.int .i64 s, .slice H L.length h] 44)).heap.size := by simp
    replace qB := blk_below ka qB
    replace qG := blk_below ka qG
    replace oM := oM.keep ka
    replace oH := oH.keep ka
    replace hB := below_step hB ka
    replace T := below_step T ka
    have z14 := ka.size
    obtain ⟨g14, hg14⟩ : ∃ g, w14.heap.size = g := ⟨_, rfl⟩
    obtain ⟨W14, hW14⟩ : ∃ W, w14.alloc (.cells #[.int .i64 s, .slice H L.length h] 44) = W := ⟨_, rfl⟩
    have Hg14 := Lib.hid hg14
    rw [hW14] at qB qG oM oH hB zz qH T
    rw [hg14] at zz qH
    try rw [hg14] at oM
    try rw [hg14] at oH
    have hz_qH := zz
    clear ka zz
    have c_qB_0 := blk_cell (o := 0) qB rfl
    have c_qB_1 := blk_cell (o := 1) qB rfl
    have c_qG_0 := blk_cell (o := 0) qG rfl
    have c_qG_1 := blk_cell (o := 1) qG rfl
    have c_qH_0 := blk_cell (o := 0) qH rfl
    have c_qH_1 := blk_cell (o := 1) qH rfl
    go_wp2_with fail
    clear hW14 hg14
    refine (EQ.out H h B0 b0 _ oH.rd (RB.out.below T)).mono ?_
    rintro e w15 ⟨rfl, k⟩
    clear c_qB_0 c_qB_1 c_qG_0 c_qG_1 c_qH_0 c_qH_1
    replace qB := blk_below k qB
    replace qG := blk_below k qG
    replace qH := blk_below k qH
    replace oM := oM.keep k
    replace oH := oH.keep k
    replace hB := below_step hB k
    replace T := below_step T k
    have z15 := k.size
    clear k
    clear oH
    have c_qB_0 := blk_cell (o := 0) qB rfl
    have c_qB_1 := blk_cell (o := 1) qB rfl
    have c_qG_0 := blk_cell (o := 0) qG rfl
    have c_qG_1 := blk_cell (o := 1) qG rfl
    have c_qH_0 := blk_cell (o := 0) qH rfl
    have c_qH_1 := blk_cell (o := 1) qH rfl
    go_wp2_with fail
    refine (HB.out G g _ oM).mono ?_
    rintro e w16 ⟨rfl, k⟩
    clear c_qB_0 c_qB_1 c_qG_0 c_qG_1 c_qH_0 c_qH_1
    replace hB := below_step hB k
    go_wp2
    go_ret
    exact ⟨rfl, hB⟩
  · rw [szG_no hfit] at S0
    go_enter Try.func5, Try.ntmps5
    go_wp2_with fail
    refine S0.out.mono ?_
    rintro e w1 ⟨rfl, k⟩
    go_wp2
    go_ret
    exact ⟨rfl, k⟩
end Go.Proofs.Ytlnphcongijfiaa
