/- NfaPairs: program and reference return the same, leave their arguments as they were, and what is returned is the caller's own. No conditions. Printed by xpe.py. -/
import Derived.Test.YtgpjgigmlgoiiaaSNPairs
import Derived.Test.YtgpjgigmlgoiiaaNMark
import Derived.Deep.RegionHeld3
import Derived.Deep.DeepCutAuto
namespace Go.Proofs.Ytgpjgigmlgoiiaa
open Go.RowKit

/-- What the drawn regions leave. -/
def OutSS (w : World) (zs : List (List Int)) (sa : Value) (wx : World) : Prop := ∃ B d, sa = .slice B zs.length d ∧ OwnSS wx w.heap.size B d zs ∧ Below w.heap.size w wx
theorem OutSS.mono {w : World} {b b' : Nat} {B : Option Addr} {d : Nat} {zs : List (List Int)} (h : OwnSS w b B d zs) (hb : b' ≤ b) : OwnSS w b' B d zs := OwnSS.mono h hb

set_option maxRecDepth 100000 in
set_option maxHeartbeats 12800000 in
theorem FnExactNfaPairs_walk (w : World) (v0 : Value) (s : Int) (es : List Ed) (h0 : GrK w v0 s es) (v1 : Value) (m : Int) (arcs : List Ed) (bs : List Bool) (h1 : NfK w v1 m arcs bs) :
    Calls Try.prog 5 #[v0, v1] w fun e w' => e = .returned (.bool true) ∧ Below w.heap.size w w' := by
  obtain ⟨_, A, c, rfl, hx, hlc, hcm, hok⟩ := h0
  obtain ⟨_, E, x, G, y, rfl, hy, hyb, hlm, hmm, hlf, hmf, hpk⟩ := h1
  have HL := Lib.hid (fun e he => (hok e he).2.1 : ∀ e ∈ es, 0 ≤ e.l ∧ e.l ≤ 255)
  have HLA := Lib.hid (fun e he => (hpk e he).2.1 : ∀ e ∈ arcs, 0 ≤ e.l ∧ e.l ≤ 255)
  clear hok hpk
  unfold maxLen at hcm hmm hmf
  have HX0 := Lib.hid hx
  have HX1 := Lib.hid (show RdN w E G arcs bs from ⟨hy, hyb⟩)
  have ka := below_alloc w (.cells #[.int .i64 s, .slice A es.length c] 39)
  have p0 := heap_alloc_new w (.cells #[.int .i64 s, .slice A es.length c] 39)
  obtain ⟨W1, hW1⟩ : ∃ W, w.alloc (.cells #[.int .i64 s, .slice A es.length c] 39) = W := ⟨_, rfl⟩
  rw [hW1] at ka p0
  have kb := below_alloc W1 (.cells #[.int .i64 m, .slice E arcs.length x, .slice G bs.length y] 25)
  have p1 := heap_alloc_new W1 (.cells #[.int .i64 m, .slice E arcs.length x, .slice G bs.length y] 25)
  have p0 := blk_below kb p0
  have hB0 := below_step ka kb
  have hgg : w.heap.size < W1.heap.size := by rw [← hW1]; simp
  obtain ⟨g1, hg1⟩ : ∃ g, W1.heap.size = g := ⟨_, rfl⟩
  obtain ⟨W2, hW2⟩ : ∃ W, W1.alloc (.cells #[.int .i64 m, .slice E arcs.length x, .slice G bs.length y] 25) = W := ⟨_, rfl⟩
  rw [hW2] at kb p1 p0 hB0
  rw [hg1] at p1 hgg
  have a0 := blk_cell (o := 0) p0 rfl
  have a1 := blk_cell (o := 1) p0 rfl
  have a2 := blk_cell (o := 0) p1 rfl
  have a3 := blk_cell (o := 1) p1 rfl
  have a4 := blk_cell (o := 2) p1 rfl
  have S0 := Lib.hid (szGraph_any s A es.length c 1048576 W2 (by omega) (by omega))
  clear ka kb hx hy hyb
  by_cases hb1 : (es.length : Int) ≤ 1048576
  · rw [if_pos hb1] at S0
    have hq : decide ((1048576 : Int) - (es.length : Int) < 0) = false := decide_eq_false (by omega)
    have S1 := Lib.hid (fun W => szNfa_any m E G arcs.length x bs.length y ((1048576 : Int) - es.length) W (by omega) (by omega) (by omega))
    go_enter Try.func5, Try.ntmps5
    go_wp2_with fail
    clear hW1 hW2 hg1
    refine S0.out.mono ?_
    rintro e w0 ⟨rfl, k⟩
    have hB := below_step hB0 k
    have p0 := blk_below k p0
    have p1 := blk_below k p1
    clear a0 a1 a2 a3 a4 k hB0 S0
    have a0 := blk_cell (o := 0) p0 rfl
    have a1 := blk_cell (o := 1) p0 rfl
    have a2 := blk_cell (o := 0) p1 rfl
    have a3 := blk_cell (o := 1) p1 rfl
    have a4 := blk_cell (o := 2) p1 rfl
    go_wp2_with fail
    refine (S1.out w0).mono ?_
    by_cases hb2 : (arcs.length : Int) + bs.length ≤ (1048576 : Int) - es.length
    · rw [szN_yes hb2]
      rintro e w1 ⟨rfl, k⟩
      have hB := below_step hB k
      have p0 := blk_below k p0
      have p1 := blk_below k p1
      have hz_p0 := blk_lt p0
      have hz_p1 := blk_lt p1
      have z1 := k.size
      clear a0 a1 a2 a3 a4 k S1 hq
      have hq : decide ((1048576 : Int) - (es.length : Int) - (arcs.length : Int) - (bs.length : Int) < 0) = false := decide_eq_false (by omega)
      have hn : es.length ≤ 1048576 := by omega
      have hal : arcs.length ≤ 1048576 := by omega
      have hbl : bs.length ≤ 1048576 := by omega
      have C1 := Lib.hid (fun (w : World) (A0 : Option Addr) (c0 : Nat) (h0 : RdE w A0 es) (A1 : Option Addr) (c1 : Nat) (A2 : Option Addr) (c2 : Nat) (h1 : RdN w A1 A2 arcs bs) => spec_NfaPairs_any s A0 A1 A2 c0 c1 c2 es m arcs bs w h0 hn HL.out h1.1 hal HLA.out h1.2 hbl)
      have C2 := Lib.hid (fun (w : World) (A0 : Option Addr) (c0 : Nat) (h0 : RdE w A0 es) (A1 : Option Addr) (c1 : Nat) (A2 : Option Addr) (c2 : Nat) (h1 : RdN w A1 A2 arcs bs) => impl_NfaPairs_any s A0 A1 A2 c0 c1 c2 es m arcs bs w h0 hn HL.out h1.1 hal HLA.out h1.2 hbl)
      have hzl := npL_len s es m arcs bs
      unfold MadeSS at C1 C2
      obtain ⟨zs, hzs⟩ : ∃ zs, npL s es m arcs bs = zs := ⟨_, rfl⟩
      rw [hzs] at C1 C2 hzl
      have TO0 := Lib.hid (fun (w : World) (hx : RdE w A es) => toGraph_any s A c es w hx (by omega))
      unfold MadeG at TO0
      have TO1 := Lib.hid (fun (w : World) (hx : RdN w E G arcs bs) => toNfaK_any m E G x y arcs bs w hx (by omega) (by omega))
      have EQ0 := Lib.hid (fun (A : Option Addr) (c : Nat) (B : Option Addr) (d : Nat) (w : World) (hx : RdE w A es) (hy : RdE w B es) => eqGraph_sameK s A B c d es w hx hy (by omega))
      have EQ1 := Lib.hid (fun (A : Option Addr) (c : Nat) (B : Option Addr) (d : Nat) (A' : Option Addr) (c' : Nat) (B' : Option Addr) (d' : Nat) (w : World) (hx : RdN w A B arcs bs) (hy : RdN w A' B' arcs bs) => eqNfa_same m A B A' B' c d c' d' arcs bs w hx.1 hy.1 hx.2 hy.2 (by omega) (by omega))
      have MB0 := Lib.hid (fun (lo hi : Nat) (A : Option Addr) (c : Nat) (w : World) (ho : OwnGr w lo hi A c es) => markGraphT_any lo hi s A c es 1 w ho (by omega) (by omega))
      have MB1 := Lib.hid (fun (lo hi : Nat) (A : Option Addr) (c : Nat) (B : Option Addr) (d : Nat) (w : World) (ho : OwnNI w lo hi A c B d arcs bs) => markNfaT_any lo hi m A B c d arcs bs (1 + 3 * es.length) w ho (by omega) (by omega) (by omega))
      have hcz : cntR zs ≤ 4194304 := by rw [cntR_two hzl.2]; have := hzl.1; omega
      have EQ := Lib.hid (fun (A : Option Addr) (c : Nat) (B : Option Addr) (d : Nat) (w : World) (hx : RdSS w A zs) (hy : RdSS w B zs) => eqIntSS_sameK A B c d zs w hx hy (by have := hzl.1; omega) (fun p hp => by have := hzl.2 p hp; omega))
      have MB := Lib.hid (fun (lo hi : Nat) (A : Option Addr) (c : Nat) (w : World) (ho : OwnSI w lo hi A c zs) => markIntSS_any lo hi A c zs 1 w ho (by omega) (by have := hzl.1; omega))
      unfold MarkedSS at MB
      have HB := Lib.hid (fun (A : Option Addr) (c : Nat) (w : World) (hx : RdSS w A (markR 1 zs)) => heldIntSS_one A c zs w hx hcz (by have := hzl.1; omega))
      obtain ⟨zn, hzn⟩ : ∃ n : Nat, cntR zs = n := ⟨_, rfl⟩
      rw [hzn] at MB HB hcz
      have hsame : ((1 : Int) + (zn : Int) != 1 + (zn : Int)) = false := by simp
      have hneg2 : decide ((1 : Int) + (zn : Int) < 0) = false := decide_eq_false (by omega)
      have hneg : decide ((1 : Int) + 3 * (es.length : Int) + 3 * (arcs.length : Int) + (bs.length : Int) < 0) = false := decide_eq_false (by omega)
      clear hzn hzl hzs hb1 hb2
      have c_p0_0 := blk_cell (o := 0) p0 rfl
      have c_p0_1 := blk_cell (o := 1) p0 rfl
      have c_p1_0 := blk_cell (o := 0) p1 rfl
      have c_p1_1 := blk_cell (o := 1) p1 rfl
      have c_p1_2 := blk_cell (o := 2) p1 rfl
      have MK := Lib.hid (fun (w' : World) (hk : Below w1.heap.size w1 w') => (⟨blk_cell (o := 0) (blk_below hk p0) rfl, blk_cell (o := 1) (blk_below hk p0) rfl, blk_cell (o := 0) (blk_below hk p1) rfl, blk_cell (o := 1) (blk_below hk p1) rfl, blk_cell (o := 2) (blk_below hk p1) rfl, hk⟩ : w'.cell? ⟨w.heap.size, 0, none⟩ = some (.int .i64 s) ∧ w'.cell? ⟨w.heap.size, 1, none⟩ = some (.slice A es.length c) ∧ w'.cell? ⟨g1, 0, none⟩ = some (.int .i64 m) ∧ w'.cell? ⟨g1, 1, none⟩ = some (.slice E arcs.length x) ∧ w'.cell? ⟨g1, 2, none⟩ = some (.slice G bs.length y) ∧ Below w1.heap.size w1 w'))
      have B0' : Below w1.heap.size w1 w1.drew := (Below.refl _ _).drew
      have HBc := Lib.hid hB
      go_upto_region 8 with fail
      go_cut [6] (fun sa wx => OutSS w1 zs sa wx)
      case first =>
        go_region_held3 (fun w' => w'.cell? ⟨w.heap.size, 0, none⟩ = some (.int .i64 s) ∧ w'.cell? ⟨w.heap.size, 1, none⟩ = some (.slice A es.length c) ∧ w'.cell? ⟨g1, 0, none⟩ = some (.int .i64 m) ∧ w'.cell? ⟨g1, 1, none⟩ = some (.slice E arcs.length x) ∧ w'.cell? ⟨g1, 2, none⟩ = some (.slice G bs.length y) ∧ Below w1.heap.size w1 w')
          ((first
            | (exact MK.out _ B0')
            | assumption
            | (go_split_ands; exact MK.out _ (below_step (by assumption) hbk))))
          ((first
            | (go_at_call 20; go_split_ands; refine (TO0.out _ (HX0.out.below (below_step HBc.out (by assumption)))).mono ?_; rintro e w' ⟨U0a, u0a_, rfl, o3, hbk⟩; have rr0 := (OwnGr.of o3).rd; clear o3; (try replace rr1 := rr1.below hbk); skip)
            | (go_at_call 11; go_split_ands; refine (TO1.out _ (HX1.out.below (below_step HBc.out (by assumption)))).mono ?_; rintro e w' ⟨U1a, u1a_, U1b, u1b_, rfl, o3, hbk⟩; have rr1 := (OwnNI.of0 o3).rd; clear o3; (try replace rr0 := rr0.below hbk); skip)
            | (go_at_call 19; go_split_ands; refine (C1.out _ U0a u0a_ rr0 U1a u1a_ U1b u1b_ rr1).mono ?_; rintro e w' ⟨B9, b9, rfl, o9, hbk⟩; have hT : Below w1.heap.size w1 w' := below_step (by assumption) hbk; have o9 := OutSS.mono o9 (Below.size (by assumption : Below w1.heap.size w1 _)))))
        all_goals
          go_wp2_with fail
          go_meet
          exact ⟨_, _, rfl, o9, hT⟩
      case rest =>
        obtain ⟨B0, d0, rfl, oB, k⟩ := hcut
        obtain ⟨w2, hw⟩ : ∃ w, wc = w := ⟨_, rfl⟩
        rw [hw] at oB k ⊢
        clear hw MK B0' HBc c_p0_0 c_p0_1 c_p1_0 c_p1_1 c_p1_2
        replace p0 := blk_below k p0
        replace p1 := blk_below k p1
        replace hB := below_step hB k
        have z2 := k.size
        clear k
        have c_p0_0 := blk_cell (o := 0) p0 rfl
        have c_p0_1 := blk_cell (o := 1) p0 rfl
        have c_p1_0 := blk_cell (o := 0) p1 rfl
        have c_p1_1 := blk_cell (o := 1) p1 rfl
        have c_p1_2 := blk_cell (o := 2) p1 rfl
        go_wp2_with fail
        have RB := Lib.hid (OwnSI.of oB).rd
        clear oB
        have T : Below w2.heap.size w2 w2 := Below.refl _ _
        refine (TO0.out _ (HX0.out.below hB)).mono ?_
        rintro e w3 ⟨X0a, x0a_, rfl, o0, k⟩
        clear c_p0_0 c_p0_1 c_p1_0 c_p1_1 c_p1_2
        have o0 := OwnGr.of o0
        replace p0 := blk_below k p0
        replace p1 := blk_below k p1
        replace hB := below_step hB k
        replace T := below_step T k
        have z3 := k.size
        clear k
        have ka := below_alloc w3 (.cells #[.int .i64 s, .slice X0a es.length x0a_] 45)
        have q0 := heap_alloc_new w3 (.cells #[.int .i64 s, .slice X0a es.length x0a_] 45)
        have zz : w3.heap.size < (w3.alloc (.cells #[.int .i64 s, .slice X0a es.length x0a_] 45)).heap.size := by simp
        replace p0 := blk_below ka p0
        replace p1 := blk_below ka p1
        replace o0 := o0.keep ka
        replace hB := below_step hB ka
        replace T := below_step T ka
        have z3 := ka.size
        obtain ⟨g3, hg3⟩ : ∃ g, w3.heap.size = g := ⟨_, rfl⟩
        obtain ⟨W3, hW3⟩ : ∃ W, w3.alloc (.cells #[.int .i64 s, .slice X0a es.length x0a_] 45) = W := ⟨_, rfl⟩
        have Hg3 := Lib.hid hg3
        rw [hW3] at p0 p1 o0 hB zz q0 T
        rw [hg3] at zz q0
        try rw [hg3] at o0
        have hz_q0 := zz
        clear ka zz z3
        have c_p0_0 := blk_cell (o := 0) p0 rfl
        have c_p0_1 := blk_cell (o := 1) p0 rfl
        have c_p1_0 := blk_cell (o := 0) p1 rfl
        have c_p1_1 := blk_cell (o := 1) p1 rfl
        have c_p1_2 := blk_cell (o := 2) p1 rfl
        have c_q0_0 := blk_cell (o := 0) q0 rfl
        have c_q0_1 := blk_cell (o := 1) q0 rfl
        go_wp2_with fail
        clear hW3 hg3
        refine (TO1.out _ (HX1.out.below hB)).mono ?_
        rintro e w4 ⟨X1a, x1a_, X1b, x1b_, rfl, o1, k⟩
        clear c_p0_0 c_p0_1 c_p1_0 c_p1_1 c_p1_2 c_q0_0 c_q0_1
        have o1 := OwnNI.of0 o1
        replace p0 := blk_below k p0
        replace p1 := blk_below k p1
        replace q0 := blk_below k q0
        replace o0 := o0.keep k
        replace hB := below_step hB k
        replace T := below_step T k
        have z4 := k.size
        clear k
        have ka := below_alloc w4 (.cells #[.int .i64 m, .slice X1a arcs.length x1a_, .slice X1b bs.length x1b_] 29)
        have q1 := heap_alloc_new w4 (.cells #[.int .i64 m, .slice X1a arcs.length x1a_, .slice X1b bs.length x1b_] 29)
        have zz : w4.heap.size < (w4.alloc (.cells #[.int .i64 m, .slice X1a arcs.length x1a_, .slice X1b bs.length x1b_] 29)).heap.size := by simp
        replace p0 := blk_below ka p0
        replace p1 := blk_below ka p1
        replace q0 := blk_below ka q0
        replace o0 := o0.keep ka
        replace o1 := o1.keep ka
        replace hB := below_step hB ka
        replace T := below_step T ka
        have z4 := ka.size
        obtain ⟨g4, hg4⟩ : ∃ g, w4.heap.size = g := ⟨_, rfl⟩
        obtain ⟨W4, hW4⟩ : ∃ W, w4.alloc (.cells #[.int .i64 m, .slice X1a arcs.length x1a_, .slice X1b bs.length x1b_] 29) = W := ⟨_, rfl⟩
        have Hg4 := Lib.hid hg4
        rw [hW4] at p0 p1 q0 o0 o1 hB zz q1 T
        rw [hg4] at zz q1
        try rw [hg4] at o0
        try rw [hg4] at o1
        have hz_q1 := zz
        clear ka zz z4
        have c_p0_0 := blk_cell (o := 0) p0 rfl
        have c_p0_1 := blk_cell (o := 1) p0 rfl
        have c_p1_0 := blk_cell (o := 0) p1 rfl
        have c_p1_1 := blk_cell (o := 1) p1 rfl
        have c_p1_2 := blk_cell (o := 2) p1 rfl
        have c_q0_0 := blk_cell (o := 0) q0 rfl
        have c_q0_1 := blk_cell (o := 1) q0 rfl
        have c_q1_0 := blk_cell (o := 0) q1 rfl
        have c_q1_1 := blk_cell (o := 1) q1 rfl
        have c_q1_2 := blk_cell (o := 2) q1 rfl
        go_wp2_with fail
        clear hW4 hg4
        refine (C2.out _ X0a x0a_ o0.rd X1a x1a_ X1b x1b_ o1.rd).mono ?_
        rintro e w5 ⟨B1, d1, rfl, oG, k⟩
        clear c_p0_0 c_p0_1 c_p1_0 c_p1_1 c_p1_2 c_q0_0 c_q0_1 c_q1_0 c_q1_1 c_q1_2
        have oG := OwnSI.of oG
        replace p0 := blk_below k p0
        replace p1 := blk_below k p1
        replace q0 := blk_below k q0
        replace q1 := blk_below k q1
        replace o0 := o0.keep k
        replace o1 := o1.keep k
        replace hB := below_step hB k
        replace T := below_step T k
        have z5 := k.size
        clear k
        have c_p0_0 := blk_cell (o := 0) p0 rfl
        have c_p0_1 := blk_cell (o := 1) p0 rfl
        have c_p1_0 := blk_cell (o := 0) p1 rfl
        have c_p1_1 := blk_cell (o := 1) p1 rfl
        have c_p1_2 := blk_cell (o := 2) p1 rfl
        have c_q0_0 := blk_cell (o := 0) q0 rfl
        have c_q0_1 := blk_cell (o := 1) q0 rfl
        have c_q1_0 := blk_cell (o := 0) q1 rfl
        have c_q1_1 := blk_cell (o := 1) q1 rfl
        have c_q1_2 := blk_cell (o := 2) q1 rfl
        go_wp2_with fail
        refine (EQ.out B1 d1 B0 d0 _ oG.rd (RB.out.keep T)).mono ?_
        rintro e w6 ⟨rfl, k⟩
        clear c_p0_0 c_p0_1 c_p1_0 c_p1_1 c_p1_2 c_q0_0 c_q0_1 c_q1_0 c_q1_1 c_q1_2
        replace p0 := blk_below k p0
        replace p1 := blk_below k p1
        replace q0 := blk_below k q0
        replace q1 := blk_below k q1
        replace o0 := o0.keep k
        replace o1 := o1.keep k
        replace oG := oG.keep k
        replace hB := below_step hB k
        replace T := below_step T k
        have z6 := k.size
        clear k
        have MK := Lib.hid (fun (w' : World) (hk : Below w6.heap.size w6 w') => (⟨blk_cell (o := 0) (blk_below hk p0) rfl, blk_cell (o := 1) (blk_below hk p0) rfl, blk_cell (o := 0) (blk_below hk q0) rfl, blk_cell (o := 1) (blk_below hk q0) rfl, hk⟩ : w'.cell? ⟨w.heap.size, 0, none⟩ = some (.int .i64 s) ∧ w'.cell? ⟨w.heap.size, 1, none⟩ = some (.slice A es.length c) ∧ w'.cell? ⟨g3, 0, none⟩ = some (.int .i64 s) ∧ w'.cell? ⟨g3, 1, none⟩ = some (.slice X0a es.length x0a_) ∧ Below w6.heap.size w6 w'))
        have B0' : Below w6.heap.size w6 w6.drew := (Below.refl _ _).drew
        have RX := Lib.hid o0.rd
        have HBc := Lib.hid hB
        have c_p0_0 := blk_cell (o := 0) p0 rfl
        have c_p0_1 := blk_cell (o := 1) p0 rfl
        have c_p1_0 := blk_cell (o := 0) p1 rfl
        have c_p1_1 := blk_cell (o := 1) p1 rfl
        have c_p1_2 := blk_cell (o := 2) p1 rfl
        have c_q0_0 := blk_cell (o := 0) q0 rfl
        have c_q0_1 := blk_cell (o := 1) q0 rfl
        have c_q1_0 := blk_cell (o := 0) q1 rfl
        have c_q1_1 := blk_cell (o := 1) q1 rfl
        have c_q1_2 := blk_cell (o := 2) q1 rfl
        go_wp2_with fail
        go_region_held3 (fun w' => w'.cell? ⟨w.heap.size, 0, none⟩ = some (.int .i64 s) ∧ w'.cell? ⟨w.heap.size, 1, none⟩ = some (.slice A es.length c) ∧ w'.cell? ⟨g3, 0, none⟩ = some (.int .i64 s) ∧ w'.cell? ⟨g3, 1, none⟩ = some (.slice X0a es.length x0a_) ∧ Below w6.heap.size w6 w')
          ((first
            | (exact MK.out _ B0')
            | assumption
            | (go_split_ands; exact MK.out _ (below_step (by assumption) hbk))))
          ((first
            | (go_at_call 20; go_split_ands; refine (TO0.out _ (HX0.out.below (below_step HBc.out (by assumption)))).mono ?_; rintro e w' ⟨Y0a, y0a_, rfl, o3, hbk⟩; have r3 := (OwnGr.of o3).rd; clear o3)
            | (go_at_call 23; go_split_ands; refine (EQ0.out X0a x0a_ _ _ _ (RX.out.below (by assumption)) r3).mono ?_; rintro e w' ⟨rfl, hbk⟩)))
        obtain ⟨w7, rfl⟩ : ∃ wq : World, wq = w' := ⟨_, rfl⟩
        go_split_ands
        have U : Below w6.heap.size w6 w7 := by assumption
        clear c_p0_0 c_p0_1 c_p1_0 c_p1_1 c_p1_2 c_q0_0 c_q0_1 c_q1_0 c_q1_1 c_q1_2 MK B0' RX HBc
        replace p0 := blk_below U p0
        replace p1 := blk_below U p1
        replace q0 := blk_below U q0
        replace q1 := blk_below U q1
        replace o0 := o0.keep U
        replace o1 := o1.keep U
        replace oG := oG.keep U
        replace hB := below_step hB U
        replace T := below_step T U
        have z7 := U.size
        clear U
        have MK := Lib.hid (fun (w' : World) (hk : Below w7.heap.size w7 w') => (⟨blk_cell (o := 0) (blk_below hk p1) rfl, blk_cell (o := 1) (blk_below hk p1) rfl, blk_cell (o := 2) (blk_below hk p1) rfl, blk_cell (o := 0) (blk_below hk q1) rfl, blk_cell (o := 1) (blk_below hk q1) rfl, blk_cell (o := 2) (blk_below hk q1) rfl, hk⟩ : w'.cell? ⟨g1, 0, none⟩ = some (.int .i64 m) ∧ w'.cell? ⟨g1, 1, none⟩ = some (.slice E arcs.length x) ∧ w'.cell? ⟨g1, 2, none⟩ = some (.slice G bs.length y) ∧ w'.cell? ⟨g4, 0, none⟩ = some (.int .i64 m) ∧ w'.cell? ⟨g4, 1, none⟩ = some (.slice X1a arcs.length x1a_) ∧ w'.cell? ⟨g4, 2, none⟩ = some (.slice X1b bs.length x1b_) ∧ Below w7.heap.size w7 w'))
        have B0' : Below w7.heap.size w7 w7.drew := (Below.refl _ _).drew
        have RX := Lib.hid o1.rd
        have HBc := Lib.hid hB
        have c_p0_0 := blk_cell (o := 0) p0 rfl
        have c_p0_1 := blk_cell (o := 1) p0 rfl
        have c_p1_0 := blk_cell (o := 0) p1 rfl
        have c_p1_1 := blk_cell (o := 1) p1 rfl
        have c_p1_2 := blk_cell (o := 2) p1 rfl
        have c_q0_0 := blk_cell (o := 0) q0 rfl
        have c_q0_1 := blk_cell (o := 1) q0 rfl
        have c_q1_0 := blk_cell (o := 0) q1 rfl
        have c_q1_1 := blk_cell (o := 1) q1 rfl
        have c_q1_2 := blk_cell (o := 2) q1 rfl
        go_wp2_with fail
        go_region_held3 (fun w' => w'.cell? ⟨g1, 0, none⟩ = some (.int .i64 m) ∧ w'.cell? ⟨g1, 1, none⟩ = some (.slice E arcs.length x) ∧ w'.cell? ⟨g1, 2, none⟩ = some (.slice G bs.length y) ∧ w'.cell? ⟨g4, 0, none⟩ = some (.int .i64 m) ∧ w'.cell? ⟨g4, 1, none⟩ = some (.slice X1a arcs.length x1a_) ∧ w'.cell? ⟨g4, 2, none⟩ = some (.slice X1b bs.length x1b_) ∧ Below w7.heap.size w7 w')
          ((first
            | (exact MK.out _ B0')
            | assumption
            | (go_split_ands; exact MK.out _ (below_step (by assumption) hbk))))
          ((first
            | (go_at_call 11; go_split_ands; refine (TO1.out _ (HX1.out.below (below_step HBc.out (by assumption)))).mono ?_; rintro e w' ⟨Y1a, y1a_, Y1b, y1b_, rfl, o3, hbk⟩; have r3 := (OwnNI.of0 o3).rd; clear o3)
            | (go_at_call 13; go_split_ands; refine (EQ1.out X1a x1a_ X1b x1b_ _ _ _ _ _ (RX.out.below (by assumption)) r3).mono ?_; rintro e w' ⟨rfl, hbk⟩)))
        obtain ⟨w8, rfl⟩ : ∃ wq : World, wq = w' := ⟨_, rfl⟩
        go_split_ands
        have U : Below w7.heap.size w7 w8 := by assumption
        clear c_p0_0 c_p0_1 c_p1_0 c_p1_1 c_p1_2 c_q0_0 c_q0_1 c_q1_0 c_q1_1 c_q1_2 MK B0' RX HBc
        replace p0 := blk_below U p0
        replace p1 := blk_below U p1
        replace q0 := blk_below U q0
        replace q1 := blk_below U q1
        replace o0 := o0.keep U
        replace o1 := o1.keep U
        replace oG := oG.keep U
        replace hB := below_step hB U
        replace T := below_step T U
        have z8 := U.size
        clear U
        have c_p0_0 := blk_cell (o := 0) p0 rfl
        have c_p0_1 := blk_cell (o := 1) p0 rfl
        have c_p1_0 := blk_cell (o := 0) p1 rfl
        have c_p1_1 := blk_cell (o := 1) p1 rfl
        have c_p1_2 := blk_cell (o := 2) p1 rfl
        have c_q0_0 := blk_cell (o := 0) q0 rfl
        have c_q0_1 := blk_cell (o := 1) q0 rfl
        have c_q1_0 := blk_cell (o := 0) q1 rfl
        have c_q1_1 := blk_cell (o := 1) q1 rfl
        have c_q1_2 := blk_cell (o := 2) q1 rfl
        go_wp2_with fail
        refine (MB0.out _ _ X0a x0a_ _ o0).mono ?_
        rintro e w9 ⟨rfl, _, t⟩
        clear c_p0_0 c_p0_1 c_p1_0 c_p1_1 c_p1_2 c_q0_0 c_q0_1 c_q1_0 c_q1_1 c_q1_2
        replace p0 := t.blk p0 (by have e0 := Hg3.out; have e1 := Hg4.out; omega)
        replace p1 := t.blk p1 (by have e0 := Hg3.out; have e1 := Hg4.out; omega)
        replace q0 := t.blk q0 (by have e0 := Hg3.out; have e1 := Hg4.out; omega)
        replace q1 := t.blk q1 (by have e0 := Hg3.out; have e1 := Hg4.out; omega)
        replace o1 := o1.touch t (by have e0 := Hg3.out; have e1 := Hg4.out; omega)
        replace oG := oG.touch t (by have e0 := Hg3.out; have e1 := Hg4.out; omega)
        replace hB := hB.trans ((t.below (by have e0 := Hg3.out; have e1 := Hg4.out; omega)).mono (by have e0 := Hg3.out; have e1 := Hg4.out; omega))
        replace T := T.trans ((t.below (by have e0 := Hg3.out; have e1 := Hg4.out; omega)).mono (by have e0 := Hg3.out; have e1 := Hg4.out; omega))
        have z9 := t.size
        clear t o0
        have c_p0_0 := blk_cell (o := 0) p0 rfl
        have c_p0_1 := blk_cell (o := 1) p0 rfl
        have c_p1_0 := blk_cell (o := 0) p1 rfl
        have c_p1_1 := blk_cell (o := 1) p1 rfl
        have c_p1_2 := blk_cell (o := 2) p1 rfl
        have c_q0_0 := blk_cell (o := 0) q0 rfl
        have c_q0_1 := blk_cell (o := 1) q0 rfl
        have c_q1_0 := blk_cell (o := 0) q1 rfl
        have c_q1_1 := blk_cell (o := 1) q1 rfl
        have c_q1_2 := blk_cell (o := 2) q1 rfl
        go_wp2_with fail
        refine (MB1.out _ _ X1a x1a_ X1b x1b_ _ o1).mono ?_
        rintro e w10 ⟨rfl, _, t⟩
        clear c_p0_0 c_p0_1 c_p1_0 c_p1_1 c_p1_2 c_q0_0 c_q0_1 c_q1_0 c_q1_1 c_q1_2
        replace p0 := t.blk p0 (by have e0 := Hg3.out; have e1 := Hg4.out; omega)
        replace p1 := t.blk p1 (by have e0 := Hg3.out; have e1 := Hg4.out; omega)
        replace q0 := t.blk q0 (by have e0 := Hg3.out; have e1 := Hg4.out; omega)
        replace q1 := t.blk q1 (by have e0 := Hg3.out; have e1 := Hg4.out; omega)
        replace oG := oG.touch t (by have e0 := Hg3.out; have e1 := Hg4.out; omega)
        replace hB := hB.trans ((t.below (by have e0 := Hg3.out; have e1 := Hg4.out; omega)).mono (by have e0 := Hg3.out; have e1 := Hg4.out; omega))
        replace T := T.trans ((t.below (by have e0 := Hg3.out; have e1 := Hg4.out; omega)).mono (by have e0 := Hg3.out; have e1 := Hg4.out; omega))
        have z10 := t.size
        clear t o1
        have c_p0_0 := blk_cell (o := 0) p0 rfl
        have c_p0_1 := blk_cell (o := 1) p0 rfl
        have c_p1_0 := blk_cell (o := 0) p1 rfl
        have c_p1_1 := blk_cell (o := 1) p1 rfl
        have c_p1_2 := blk_cell (o := 2) p1 rfl
        have c_q0_0 := blk_cell (o := 0) q0 rfl
        have c_q0_1 := blk_cell (o := 1) q0 rfl
        have c_q1_0 := blk_cell (o := 0) q1 rfl
        have c_q1_1 := blk_cell (o := 1) q1 rfl
        have c_q1_2 := blk_cell (o := 2) q1 rfl
        go_wp2_with fail
        refine (EQ.out B1 d1 B0 d0 _ oG.rd (RB.out.keep T)).mono ?_
        rintro e w11 ⟨rfl, k⟩
        clear c_p0_0 c_p0_1 c_p1_0 c_p1_1 c_p1_2 c_q0_0 c_q0_1 c_q1_0 c_q1_1 c_q1_2
        replace p0 := blk_below k p0
        replace p1 := blk_below k p1
        replace q0 := blk_below k q0
        replace q1 := blk_below k q1
        replace oG := oG.keep k
        replace hB := below_step hB k
        replace T := below_step T k
        have z11 := k.size
        clear k
        have c_p0_0 := blk_cell (o := 0) p0 rfl
        have c_p0_1 := blk_cell (o := 1) p0 rfl
        have c_p1_0 := blk_cell (o := 0) p1 rfl
        have c_p1_1 := blk_cell (o := 1) p1 rfl
        have c_p1_2 := blk_cell (o := 2) p1 rfl
        have c_q0_0 := blk_cell (o := 0) q0 rfl
        have c_q0_1 := blk_cell (o := 1) q0 rfl
        have c_q1_0 := blk_cell (o := 0) q1 rfl
        have c_q1_1 := blk_cell (o := 1) q1 rfl
        have c_q1_2 := blk_cell (o := 2) q1 rfl
        go_wp2_with fail
        refine (MB.out _ _ B1 d1 _ oG).mono ?_
        rintro e w12 ⟨rfl, oM, t⟩
        clear c_p0_0 c_p0_1 c_p1_0 c_p1_1 c_p1_2 c_q0_0 c_q0_1 c_q1_0 c_q1_1 c_q1_2
        replace p0 := t.blk p0 (by have e0 := Hg3.out; have e1 := Hg4.out; omega)
        replace p1 := t.blk p1 (by have e0 := Hg3.out; have e1 := Hg4.out; omega)
        replace q0 := t.blk q0 (by have e0 := Hg3.out; have e1 := Hg4.out; omega)
        replace q1 := t.blk q1 (by have e0 := Hg3.out; have e1 := Hg4.out; omega)
        replace hB := hB.trans ((t.below (by have e0 := Hg3.out; have e1 := Hg4.out; omega)).mono (by have e0 := Hg3.out; have e1 := Hg4.out; omega))
        replace T := T.trans ((t.below (by have e0 := Hg3.out; have e1 := Hg4.out; omega)).mono (by have e0 := Hg3.out; have e1 := Hg4.out; omega))
        have z12 := t.size
        clear t oG
        have c_p0_0 := blk_cell (o := 0) p0 rfl
        have c_p0_1 := blk_cell (o := 1) p0 rfl
        have c_p1_0 := blk_cell (o := 0) p1 rfl
        have c_p1_1 := blk_cell (o := 1) p1 rfl
        have c_p1_2 := blk_cell (o := 2) p1 rfl
        have c_q0_0 := blk_cell (o := 0) q0 rfl
        have c_q0_1 := blk_cell (o := 1) q0 rfl
        have c_q1_0 := blk_cell (o := 0) q1 rfl
        have c_q1_1 := blk_cell (o := 1) q1 rfl
        have c_q1_2 := blk_cell (o := 2) q1 rfl
        go_wp2_with fail
        refine (HB.out B1 d1 _ oM.rd).mono ?_
        rintro e w13 ⟨rfl, k⟩
        clear c_p0_0 c_p0_1 c_p1_0 c_p1_1 c_p1_2 c_q0_0 c_q0_1 c_q1_0 c_q1_1 c_q1_2
        replace p0 := blk_below k p0
        replace p1 := blk_below k p1
        replace q0 := blk_below k q0
        replace q1 := blk_below k q1
        replace oM := oM.keep k
        replace hB := below_step hB k
        replace T := below_step T k
        have z13 := k.size
        clear k
        have c_p0_0 := blk_cell (o := 0) p0 rfl
        have c_p0_1 := blk_cell (o := 1) p0 rfl
        have c_p1_0 := blk_cell (o := 0) p1 rfl
        have c_p1_1 := blk_cell (o := 1) p1 rfl
        have c_p1_2 := blk_cell (o := 2) p1 rfl
        have c_q0_0 := blk_cell (o := 0) q0 rfl
        have c_q0_1 := blk_cell (o := 1) q0 rfl
        have c_q1_0 := blk_cell (o := 0) q1 rfl
        have c_q1_1 := blk_cell (o := 1) q1 rfl
        have c_q1_2 := blk_cell (o := 2) q1 rfl
        have MK := Lib.hid (fun (w' : World) (hk : Below w13.heap.size w13 w') => (⟨blk_cell (o := 0) (blk_below hk p0) rfl, blk_cell (o := 1) (blk_below hk p0) rfl, blk_cell (o := 0) (blk_below hk p1) rfl, blk_cell (o := 1) (blk_below hk p1) rfl, blk_cell (o := 2) (blk_below hk p1) rfl, hk⟩ : w'.cell? ⟨w.heap.size, 0, none⟩ = some (.int .i64 s) ∧ w'.cell? ⟨w.heap.size, 1, none⟩ = some (.slice A es.length c) ∧ w'.cell? ⟨g1, 0, none⟩ = some (.int .i64 m) ∧ w'.cell? ⟨g1, 1, none⟩ = some (.slice E arcs.length x) ∧ w'.cell? ⟨g1, 2, none⟩ = some (.slice G bs.length y) ∧ Below w13.heap.size w13 w'))
        have B0' : Below w13.heap.size w13 w13.drew := (Below.refl _ _).drew
        have HBc := Lib.hid hB
        go_upto_region 31 with fail
        go_cut [13] (fun sa wx => OutSS w13 zs sa wx)
        case first =>
          go_region_held3 (fun w' => w'.cell? ⟨w.heap.size, 0, none⟩ = some (.int .i64 s) ∧ w'.cell? ⟨w.heap.size, 1, none⟩ = some (.slice A es.length c) ∧ w'.cell? ⟨g1, 0, none⟩ = some (.int .i64 m) ∧ w'.cell? ⟨g1, 1, none⟩ = some (.slice E arcs.length x) ∧ w'.cell? ⟨g1, 2, none⟩ = some (.slice G bs.length y) ∧ Below w13.heap.size w13 w')
            ((first
              | (exact MK.out _ B0')
              | assumption
              | (go_split_ands; exact MK.out _ (below_step (by assumption) hbk))))
            ((first
              | (go_at_call 20; go_split_ands; refine (TO0.out _ (HX0.out.below (below_step HBc.out (by assumption)))).mono ?_; rintro e w' ⟨V0a, v0a_, rfl, o3, hbk⟩; have rr0 := (OwnGr.of o3).rd; clear o3; (try replace rr1 := rr1.below hbk); skip)
              | (go_at_call 11; go_split_ands; refine (TO1.out _ (HX1.out.below (below_step HBc.out (by assumption)))).mono ?_; rintro e w' ⟨V1a, v1a_, V1b, v1b_, rfl, o3, hbk⟩; have rr1 := (OwnNI.of0 o3).rd; clear o3; (try replace rr0 := rr0.below hbk); skip)
              | (go_at_call 21; go_split_ands; refine (C2.out _ V0a v0a_ rr0 V1a v1a_ V1b v1b_ rr1).mono ?_; rintro e w' ⟨B9, b9, rfl, o9, hbk⟩; have hT : Below w13.heap.size w13 w' := below_step (by assumption) hbk; have o9 := OutSS.mono o9 (Below.size (by assumption : Below w13.heap.size w13 _)))))
          all_goals
            go_wp2_with fail
            go_meet
            exact ⟨_, _, rfl, o9, hT⟩
        case rest =>
          obtain ⟨B2, d2, rfl, oB, k⟩ := hcut
          obtain ⟨w14, hw⟩ : ∃ w, wc = w := ⟨_, rfl⟩
          rw [hw] at oB k ⊢
          clear hw MK B0' HBc c_p0_0 c_p0_1 c_p1_0 c_p1_1 c_p1_2 c_q0_0 c_q0_1 c_q1_0 c_q1_1 c_q1_2
          replace p0 := blk_below k p0
          replace p1 := blk_below k p1
          replace q0 := blk_below k q0
          replace q1 := blk_below k q1
          replace oM := oM.keep k
          replace hB := below_step hB k
          replace T := below_step T k
          have z14 := k.size
          clear k
          have oH := OwnSI.of oB
          have c_p0_0 := blk_cell (o := 0) p0 rfl
          have c_p0_1 := blk_cell (o := 1) p0 rfl
          have c_p1_0 := blk_cell (o := 0) p1 rfl
          have c_p1_1 := blk_cell (o := 1) p1 rfl
          have c_p1_2 := blk_cell (o := 2) p1 rfl
          have c_q0_0 := blk_cell (o := 0) q0 rfl
          have c_q0_1 := blk_cell (o := 1) q0 rfl
          have c_q1_0 := blk_cell (o := 0) q1 rfl
          have c_q1_1 := blk_cell (o := 1) q1 rfl
          have c_q1_2 := blk_cell (o := 2) q1 rfl
          go_wp2_with fail
          refine (EQ.out B2 d2 B0 d0 _ oH.rd (RB.out.keep T)).mono ?_
          rintro e w15 ⟨rfl, k⟩
          clear c_p0_0 c_p0_1 c_p1_0 c_p1_1 c_p1_2 c_q0_0 c_q0_1 c_q1_0 c_q1_1 c_q1_2
          replace p0 := blk_below k p0
          replace p1 := blk_below k p1
          replace q0 := blk_below k q0
          replace q1 := blk_below k q1
          replace oM := oM.keep k
          replace hB := below_step hB k
          replace T := below_step T k
          have z15 := k.size
          clear k oH oB
          have c_p0_0 := blk_cell (o := 0) p0 rfl
          have c_p0_1 := blk_cell (o := 1) p0 rfl
          have c_p1_0 := blk_cell (o := 0) p1 rfl
          have c_p1_1 := blk_cell (o := 1) p1 rfl
          have c_p1_2 := blk_cell (o := 2) p1 rfl
          have c_q0_0 := blk_cell (o := 0) q0 rfl
          have c_q0_1 := blk_cell (o := 1) q0 rfl
          have c_q1_0 := blk_cell (o := 0) q1 rfl
          have c_q1_1 := blk_cell (o := 1) q1 rfl
          have c_q1_2 := blk_cell (o := 2) q1 rfl
          go_wp2_with fail
          refine (HB.out B1 d1 _ oM.rd).mono ?_
          rintro e w16 ⟨rfl, k⟩
          clear c_p0_0 c_p0_1 c_p1_0 c_p1_1 c_p1_2 c_q0_0 c_q0_1 c_q1_0 c_q1_1 c_q1_2
          replace hB := below_step hB k
          go_wp2
          go_ret
          exact ⟨rfl, hB⟩
    · rw [szN_no hb2]
      rintro e w1 ⟨rfl, k⟩
      go_wp2
      go_ret
      exact ⟨rfl, below_step hB k⟩
  · rw [if_neg hb1] at S0
    go_enter Try.func5, Try.ntmps5
    go_wp2_with fail
    refine S0.out.mono ?_
    rintro e w1 ⟨rfl, k⟩
    go_wp2
    go_ret
    exact ⟨rfl, below_step hB0 k⟩
end Go.Proofs.Ytgpjgigmlgoiiaa
