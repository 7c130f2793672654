/- NfaOf: program and reference return the same, leave their arguments as they were, and what is returned is the caller's own. No conditions. Printed by xnflaw.py. -/
import Derived.Test.YtjlekcoikceidaaNfS
import Derived.Test.YtjlekcoikceidaaNfI
import Derived.Test.YtjlekcoikceidaaSortA
import Derived.Test.YtjlekcoikceidaaMHeld
import Derived.Test.YtjlekcoikceidaaPMark
import Derived.Deep.RegionHeld3
namespace Go.Proofs.Ytjlekcoikceidaa
open Go.RowKit

theorem OwnPI.rd {w : World} {lo hi : Nat} {A : Option Addr} {c : Nat} {ps : List Pc} (h : OwnPI w lo hi A c ps) : RdP w A ps := OwnP.rd (OwnPI.p h)
theorem sortC : SortC := fun base A c es w h1 h2 h3 => slices_SortFuncA_own base A c es w h1 h2 h3
theorem arcs_len2 {n : Nat} {es : List Ed} (hn : n ≤ 24) (h : Asc es) (hr : ∀ e ∈ es, ArOk n e) : es.length ≤ 3200 := by
  have h1 := lt_len (es.map (fun e => e.f.toNat * 128 + (e.l.toNat - 97) * 32 + e.t.toNat)) 0 3200 (by
    rw [List.pairwise_map]
    refine h.imp_of_mem ?_
    intro a b ha hb hab
    have h1 := hr a ha
    have h2 := hr b hb
    have h3 := (edLess_iff a b).1 hab
    unfold ArOk at h1 h2
    omega) (by
    intro x hx
    obtain ⟨e, he, rfl⟩ := List.mem_map.1 hx
    have h1 := hr e he
    unfold ArOk at h1
    omega)
  simpa using h1
theorem nfArcs_len2 {r : Lk × LkS} (hr : LkOk ⟨[], []⟩ r) : (nfArcs r).length ≤ 3200 := arcs_len2 hr.st.len (asc_arcsOf _ _) (nfArcs_lab hr)
theorem nf_len (ps : List Pc) : (nfA ps).length ≤ 1048576 ∧ (nfE ps).length ≤ 25 := by
  by_cases h : NfP ps
  · unfold nfA nfE
    rw [PP_yes h, if_pos rfl, if_pos rfl]
    have h1 := nfArcs_len2 (lkAll_ok h.1)
    have h2 := nfEnds_len (lkAll ps)
    have h3 := h.2
    omega
  · unfold nfA nfE
    rw [PP_no h, if_neg (by simp), if_neg (by simp)]
    simp

set_option maxRecDepth 100000 in
set_option maxHeartbeats 12800000 in
theorem FnExactNfaOf_walk (w : World) (v0 : Value) (ps : List Pc) (h0 : PaK w v0 ps) :
    Calls Try.prog 3 #[v0] w fun e w' => e = .returned (.bool true) ∧ Below w.heap.size w w' := by
  obtain ⟨E, m, rfl, hy, hlm, hmm, hpk⟩ := h0
  have hk0 : ∀ p ∈ ps, p.k.length ≤ 9223372036854775807 := fun p hp => by have := (hpk p hp).2.2.1; unfold maxLen at this; omega
  clear hpk
  unfold maxLen at hmm
  have HX0 := Lib.hid hy
  have hB0 := below_alloc w (.cells #[.slice E ps.length m] 24)
  have p0 := heap_alloc_new w (.cells #[.slice E ps.length m] 24)
  have S1 := Lib.hid (szPath_any E m ps 1048576 (w.alloc (.cells #[.slice E ps.length m] 24)) (hy.alloc _) (by omega) (by omega) hk0)
  clear hy
  by_cases hb2 : (ps.length : Int) + sumK ps ≤ 1048576
  · rw [szP_yes hb2] at S1
    have hq : decide ((1048576 : Int) - (ps.length : Int) - (sumK ps : Int) < 0) = false := decide_eq_false (by omega)
    have hq2 : decide ((1048576 : Int) - ((ps.length : Int) + (sumK ps : Int)) < 0) = false := decide_eq_false (by omega)
    have hpl : ps.length ≤ 1048576 := by omega
    have HK : Hid (∀ p ∈ ps, p.k.length ≤ 4294967296) := Lib.hid (fun p hp => by have := sumK_mem hp; omega)
    have hcn0 : cntP ps ≤ 4194304 := by rw [cntP_eq]; omega
    have C1 := Lib.hid (fun (w : World) (A1 : Option Addr) (c1 : Nat) (h1 : RdP w A1 ps) => spec_NfaOf_any A1 c1 ps w h1 hpl HK.out)
    have C2 := Lib.hid (fun (w : World) (A1 : Option Addr) (c1 : Nat) (h1 : RdP w A1 ps) => impl_NfaOf_any sortC A1 c1 ps w h1 hpl HK.out)
    have hzl := nf_len ps
    unfold MadeNB at C1 C2
    obtain ⟨rs, hrs⟩ : ∃ z : Int, nfS ps = z := ⟨_, rfl⟩
    obtain ⟨ra, hra⟩ : ∃ z, nfA ps = z := ⟨_, rfl⟩
    obtain ⟨rb, hrb⟩ : ∃ z, nfE ps = z := ⟨_, rfl⟩
    obtain ⟨okb, hokb⟩ : ∃ z, PP (NfP ps) = z := ⟨_, rfl⟩
    rw [hrs, hra, hrb, hokb] at C1 C2
    rw [hra, hrb] at hzl
    have hr1 : ra.length ≤ 1048576 := by omega
    have hr2 : rb.length ≤ 1048576 := by omega
    have TO0 := Lib.hid (fun (w : World) (hx : RdP w E ps) => toPath_any E m ps w hx (by omega) HK.out)
    unfold MadePath at TO0
    have EQ0 := Lib.hid (fun (A : Option Addr) (c : Nat) (B : Option Addr) (d : Nat) (w : World) (hx : RdP w A ps) (hy : RdP w B ps) => PP_yes (p := ps = ps) rfl ▸ eqPath_any A B c d ps ps w hx hy (by omega) HK.out)
    have EQ := Lib.hid (fun (A : Option Addr) (c : Nat) (B : Option Addr) (d : Nat) (A' : Option Addr) (c' : Nat) (B' : Option Addr) (d' : Nat) (w : World) (hx : RdN w A B ra rb) (hy : RdN w A' B' ra rb) => eqNfa_same rs A B A' B' c d c' d' ra rb w hx.1 hy.1 hx.2 hy.2 (by omega) (by omega))
    have MB0 := Lib.hid (fun (lo hi : Nat) (A : Option Addr) (c : Nat) (w : World) (ho : OwnPI w lo hi A c ps) => markPath_any lo hi A c ps 1 w ho (by omega))
    unfold MarkedP at MB0
    have MB := Lib.hid (fun (lo hi : Nat) (A : Option Addr) (c : Nat) (B : Option Addr) (d : Nat) (w : World) (ho : OwnNI w lo hi A c B d ra rb) => markNfaM_any lo hi rs A B c d ra rb w ho hr1 hr2)
    have HB := Lib.hid (fun (A : Option Addr) (c : Nat) (B : Option Addr) (d : Nat) (w : World) (hx : RdE w A (marksE 1 ra.length) ∧ RdB w B rb.length (marksB (1 + 3 * ra.length) rb.length)) => heldNfaM_any rs A B c d ra.length rb.length w hx hr1 hr2)
    obtain ⟨cn, hcn⟩ : ∃ n : Nat, cntP ps = n := ⟨_, rfl⟩
    rw [hcn] at hcn0 MB0
    have hsame : ((1 : Int) + 3 * (ra.length : Int) + (rb.length : Int) != 1 + 3 * (ra.length : Int) + (rb.length : Int)) = false := by simp
    have hokk : (okb != okb) = false := by simp
    have hneg : decide ((1 : Int) + (cn : Int) < 0) = false := decide_eq_false (by omega)
    have hneg2 : decide ((1 : Int) + 3 * (ra.length : Int) + (rb.length : Int) < 0) = false := decide_eq_false (by omega)
    clear hrs hra hrb hokb hzl hb2 hcn
    go_enter Try.func3, Try.ntmps3
    go_wp2_with fail
    refine S1.out.mono ?_
    rintro e w1 ⟨rfl, k⟩
    have z1 := k.size
    have hB := below_step hB0 k
    replace p0 := blk_below k p0
    have hz_p0 := blk_lt p0
    clear k hB0 S1
    have c_p0_0 := blk_cell (o := 0) p0 rfl
    go_wp2_with fail
    refine (TO0.out _ (HX0.out.keep hB)).mono ?_
    rintro e w2 ⟨U0a, u0a_, rfl, ru0, k⟩
    clear c_p0_0
    replace p0 := blk_below k p0
    replace hB := below_step hB k
    have z2 := k.size
    have ru0 := (OwnPI.of ru0).rd
    clear k
    have c_p0_0 := blk_cell (o := 0) p0 rfl
    go_wp2_with fail
    refine (C1.out _ U0a u0a_ ru0).mono ?_
    rintro e w3 ⟨B0a, b0a_, B0b, b0b_, rfl, oB, k⟩
    clear c_p0_0
    replace p0 := blk_below k p0
    replace hB := below_step hB k
    have z3 := k.size
    clear k
    have oB := OwnNI.of0 oB
    have ka := below_alloc w3 (.cells #[.int .i64 rs, .slice B0a ra.length b0a_, .slice B0b rb.length b0b_] 29)
    have qB := heap_alloc_new w3 (.cells #[.int .i64 rs, .slice B0a ra.length b0a_, .slice B0b rb.length b0b_] 29)
    have zz : w3.heap.size < (w3.alloc (.cells #[.int .i64 rs, .slice B0a ra.length b0a_, .slice B0b rb.length b0b_] 29)).heap.size := by simp
    replace p0 := blk_below ka p0
    replace oB := oB.keep ka
    replace hB := below_step hB ka
    have z3 := ka.size
    obtain ⟨g3, hg3⟩ : ∃ g, w3.heap.size = g := ⟨_, rfl⟩
    obtain ⟨W3, hW3⟩ : ∃ W, w3.alloc (.cells #[.int .i64 rs, .slice B0a ra.length b0a_, .slice B0b rb.length b0b_] 29) = W := ⟨_, rfl⟩
    have Hg3 := Lib.hid hg3
    rw [hW3] at p0 oB hB zz qB
    rw [hg3] at zz qB
    try rw [hg3] at oB
    have hz_qB := zz
    clear ka zz z3
    have c_p0_0 := blk_cell (o := 0) p0 rfl
    have c_qB_0 := blk_cell (o := 0) qB rfl
    have c_qB_1 := blk_cell (o := 1) qB rfl
    have c_qB_2 := blk_cell (o := 2) qB rfl
    go_wp2_with fail
    clear hW3 hg3
    have RB := Lib.hid oB.rd
    clear oB
    have T : Below W3.heap.size W3 W3 := Below.refl _ _
    refine (TO0.out _ (HX0.out.keep hB)).mono ?_
    rintro e w4 ⟨X0a, x0a_, rfl, o0, k⟩
    clear c_p0_0 c_qB_0 c_qB_1 c_qB_2
    have o0 := OwnPI.of o0
    replace p0 := blk_below k p0
    replace qB := blk_below k qB
    replace hB := below_step hB k
    replace T := below_step T k
    have z4 := k.size
    clear k
    have ka := below_alloc w4 (.cells #[.slice X0a ps.length x0a_] 34)
    have q0 := heap_alloc_new w4 (.cells #[.slice X0a ps.length x0a_] 34)
    have zz : w4.heap.size < (w4.alloc (.cells #[.slice X0a ps.length x0a_] 34)).heap.size := by simp
    replace p0 := blk_below ka p0
    replace qB := blk_below ka qB
    replace o0 := o0.keep ka
    replace hB := below_step hB ka
    replace T := below_step T ka
    have z4 := ka.size
    obtain ⟨g4, hg4⟩ : ∃ g, w4.heap.size = g := ⟨_, rfl⟩
    obtain ⟨W4, hW4⟩ : ∃ W, w4.alloc (.cells #[.slice X0a ps.length x0a_] 34) = W := ⟨_, rfl⟩
    have Hg4 := Lib.hid hg4
    rw [hW4] at p0 qB o0 hB zz q0 T
    rw [hg4] at zz q0
    try rw [hg4] at o0
    have hz_q0 := zz
    clear ka zz z4
    have c_p0_0 := blk_cell (o := 0) p0 rfl
    have c_qB_0 := blk_cell (o := 0) qB rfl
    have c_qB_1 := blk_cell (o := 1) qB rfl
    have c_qB_2 := blk_cell (o := 2) qB rfl
    have c_q0_0 := blk_cell (o := 0) q0 rfl
    go_wp2_with fail
    clear hW4 hg4
    refine (C2.out _ X0a x0a_ o0.rd).mono ?_
    rintro e w5 ⟨G1a, g1a_, G1b, g1b_, rfl, oG, k⟩
    clear c_p0_0 c_qB_0 c_qB_1 c_qB_2 c_q0_0
    have oG := OwnNI.of0 oG
    replace p0 := blk_below k p0
    replace qB := blk_below k qB
    replace q0 := blk_below k q0
    replace o0 := o0.keep k
    replace hB := below_step hB k
    replace T := below_step T k
    have z5 := k.size
    clear k
    have ka := below_alloc w5 (.cells #[.int .i64 rs, .slice G1a ra.length g1a_, .slice G1b rb.length g1b_] 29)
    have qG := heap_alloc_new w5 (.cells #[.int .i64 rs, .slice G1a ra.length g1a_, .slice G1b rb.length g1b_] 29)
    have zz : w5.heap.size < (w5.alloc (.cells #[.int .i64 rs, .slice G1a ra.length g1a_, .slice G1b rb.length g1b_] 29)).heap.size := by simp
    replace p0 := blk_below ka p0
    replace qB := blk_below ka qB
    replace q0 := blk_below ka q0
    replace o0 := o0.keep ka
    replace oG := oG.keep ka
    replace hB := below_step hB ka
    replace T := below_step T ka
    have z5 := ka.size
    obtain ⟨g5, hg5⟩ : ∃ g, w5.heap.size = g := ⟨_, rfl⟩
    obtain ⟨W5, hW5⟩ : ∃ W, w5.alloc (.cells #[.int .i64 rs, .slice G1a ra.length g1a_, .slice G1b rb.length g1b_] 29) = W := ⟨_, rfl⟩
    have Hg5 := Lib.hid hg5
    rw [hW5] at p0 qB q0 o0 oG hB zz qG T
    rw [hg5] at zz qG
    try rw [hg5] at o0
    try rw [hg5] at oG
    have hz_qG := zz
    clear ka zz z5
    have c_p0_0 := blk_cell (o := 0) p0 rfl
    have c_qB_0 := blk_cell (o := 0) qB rfl
    have c_qB_1 := blk_cell (o := 1) qB rfl
    have c_qB_2 := blk_cell (o := 2) qB rfl
    have c_q0_0 := blk_cell (o := 0) q0 rfl
    have c_qG_0 := blk_cell (o := 0) qG rfl
    have c_qG_1 := blk_cell (o := 1) qG rfl
    have c_qG_2 := blk_cell (o := 2) qG rfl
    go_wp2_with fail
    clear hW5 hg5
    refine (EQ.out G1a g1a_ G1b g1b_ B0a b0a_ B0b b0b_ _ oG.rd (RB.out.below T)).mono ?_
    rintro e w6 ⟨rfl, k⟩
    clear c_p0_0 c_qB_0 c_qB_1 c_qB_2 c_q0_0 c_qG_0 c_qG_1 c_qG_2
    replace p0 := blk_below k p0
    replace qB := blk_below k qB
    replace q0 := blk_below k q0
    replace qG := blk_below k qG
    replace o0 := o0.keep k
    replace oG := oG.keep k
    replace hB := below_step hB k
    replace T := below_step T k
    have z6 := k.size
    clear k
    have MK := Lib.hid (fun (w' : World) (hk : Below w6.heap.size w6 w') => (⟨blk_cell (o := 0) (blk_below hk p0) rfl, blk_cell (o := 0) (blk_below hk q0) rfl, hk⟩ : w'.cell? ⟨w.heap.size, 0, none⟩ = some (.slice E ps.length m) ∧ w'.cell? ⟨g4, 0, none⟩ = some (.slice X0a ps.length x0a_) ∧ Below w6.heap.size w6 w'))
    have B0' : Below w6.heap.size w6 w6.drew := (Below.refl _ _).drew
    have RX := Lib.hid o0.rd
    have HBc := Lib.hid hB
    have c_p0_0 := blk_cell (o := 0) p0 rfl
    have c_qB_0 := blk_cell (o := 0) qB rfl
    have c_qB_1 := blk_cell (o := 1) qB rfl
    have c_qB_2 := blk_cell (o := 2) qB rfl
    have c_q0_0 := blk_cell (o := 0) q0 rfl
    have c_qG_0 := blk_cell (o := 0) qG rfl
    have c_qG_1 := blk_cell (o := 1) qG rfl
    have c_qG_2 := blk_cell (o := 2) qG rfl
    go_wp2_with fail
    go_region_held3 (fun w' => w'.cell? ⟨w.heap.size, 0, none⟩ = some (.slice E ps.length m) ∧ w'.cell? ⟨g4, 0, none⟩ = some (.slice X0a ps.length x0a_) ∧ Below w6.heap.size w6 w')
      ((first
        | (exact MK.out _ B0')
        | assumption
        | (go_split_ands; exact MK.out _ (below_step (by assumption) hbk))))
      ((first
        | (go_at_call 6; go_split_ands; refine (TO0.out _ (HX0.out.keep (below_step HBc.out (by assumption)))).mono ?_; rintro e w' ⟨Y0a, y0a_, rfl, o3, hbk⟩; have r3 := (OwnPI.of o3).rd; clear o3)
        | (go_at_call 9; go_split_ands; refine (EQ0.out X0a x0a_ _ _ _ (RX.out.keep (by assumption)) r3).mono ?_; rintro e w' ⟨rfl, hbk⟩)))
    obtain ⟨w7, rfl⟩ : ∃ wq : World, wq = w' := ⟨_, rfl⟩
    go_split_ands
    have U : Below w6.heap.size w6 w7 := by assumption
    clear c_p0_0 c_qB_0 c_qB_1 c_qB_2 c_q0_0 c_qG_0 c_qG_1 c_qG_2 MK B0' RX HBc
    replace p0 := blk_below U p0
    replace qB := blk_below U qB
    replace q0 := blk_below U q0
    replace qG := blk_below U qG
    replace o0 := o0.keep U
    replace oG := oG.keep U
    replace hB := below_step hB U
    replace T := below_step T U
    have z7 := U.size
    clear U
    have c_p0_0 := blk_cell (o := 0) p0 rfl
    have c_qB_0 := blk_cell (o := 0) qB rfl
    have c_qB_1 := blk_cell (o := 1) qB rfl
    have c_qB_2 := blk_cell (o := 2) qB rfl
    have c_q0_0 := blk_cell (o := 0) q0 rfl
    have c_qG_0 := blk_cell (o := 0) qG rfl
    have c_qG_1 := blk_cell (o := 1) qG rfl
    have c_qG_2 := blk_cell (o := 2) qG rfl
    go_wp2_with fail
    refine (MB0.out _ _ X0a x0a_ _ o0).mono ?_
    rintro e w8 ⟨rfl, _, t⟩
    clear c_p0_0 c_qB_0 c_qB_1 c_qB_2 c_q0_0 c_qG_0 c_qG_1 c_qG_2
    replace p0 := t.blk p0 (by have e0 := Hg3.out; have e1 := Hg4.out; have e2 := Hg5.out; omega)
    replace qB := t.blk qB (by have e0 := Hg3.out; have e1 := Hg4.out; have e2 := Hg5.out; omega)
    replace q0 := t.blk q0 (by have e0 := Hg3.out; have e1 := Hg4.out; have e2 := Hg5.out; omega)
    replace qG := t.blk qG (by have e0 := Hg3.out; have e1 := Hg4.out; have e2 := Hg5.out; omega)
    replace oG := oG.touch t (by have e0 := Hg3.out; have e1 := Hg4.out; have e2 := Hg5.out; omega)
    replace hB := hB.trans ((t.below (by have e0 := Hg3.out; have e1 := Hg4.out; have e2 := Hg5.out; omega)).mono (by have e0 := Hg3.out; have e1 := Hg4.out; have e2 := Hg5.out; omega))
    replace T := T.trans ((t.below (by have e0 := Hg3.out; have e1 := Hg4.out; have e2 := Hg5.out; omega)).mono (by have e0 := Hg3.out; have e1 := Hg4.out; have e2 := Hg5.out; omega))
    have z8 := t.size
    clear t o0
    have c_p0_0 := blk_cell (o := 0) p0 rfl
    have c_qB_0 := blk_cell (o := 0) qB rfl
    have c_qB_1 := blk_cell (o := 1) qB rfl
    have c_qB_2 := blk_cell (o := 2) qB rfl
    have c_q0_0 := blk_cell (o := 0) q0 rfl
    have c_qG_0 := blk_cell (o := 0) qG rfl
    have c_qG_1 := blk_cell (o := 1) qG rfl
    have c_qG_2 := blk_cell (o := 2) qG rfl
    go_wp2_with fail
    refine (EQ.out G1a g1a_ G1b g1b_ B0a b0a_ B0b b0b_ _ oG.rd (RB.out.below T)).mono ?_
    rintro e w9 ⟨rfl, k⟩
    clear c_p0_0 c_qB_0 c_qB_1 c_qB_2 c_q0_0 c_qG_0 c_qG_1 c_qG_2
    replace p0 := blk_below k p0
    replace qB := blk_below k qB
    replace q0 := blk_below k q0
    replace qG := blk_below k qG
    replace oG := oG.keep k
    replace hB := below_step hB k
    replace T := below_step T k
    have z9 := k.size
    clear k
    have c_p0_0 := blk_cell (o := 0) p0 rfl
    have c_qB_0 := blk_cell (o := 0) qB rfl
    have c_qB_1 := blk_cell (o := 1) qB rfl
    have c_qB_2 := blk_cell (o := 2) qB rfl
    have c_q0_0 := blk_cell (o := 0) q0 rfl
    have c_qG_0 := blk_cell (o := 0) qG rfl
    have c_qG_1 := blk_cell (o := 1) qG rfl
    have c_qG_2 := blk_cell (o := 2) qG rfl
    go_wp2_with fail
    refine (MB.out _ _ G1a g1a_ G1b g1b_ _ oG).mono ?_
    rintro e w10 ⟨rfl, oM, t⟩
    clear c_p0_0 c_qB_0 c_qB_1 c_qB_2 c_q0_0 c_qG_0 c_qG_1 c_qG_2
    replace p0 := t.blk p0 (by have e0 := Hg3.out; have e1 := Hg4.out; have e2 := Hg5.out; omega)
    replace qB := t.blk qB (by have e0 := Hg3.out; have e1 := Hg4.out; have e2 := Hg5.out; omega)
    replace q0 := t.blk q0 (by have e0 := Hg3.out; have e1 := Hg4.out; have e2 := Hg5.out; omega)
    replace qG := t.blk qG (by have e0 := Hg3.out; have e1 := Hg4.out; have e2 := Hg5.out; omega)
    replace hB := hB.trans ((t.below (by have e0 := Hg3.out; have e1 := Hg4.out; have e2 := Hg5.out; omega)).mono (by have e0 := Hg3.out; have e1 := Hg4.out; have e2 := Hg5.out; omega))
    replace T := T.trans ((t.below (by have e0 := Hg3.out; have e1 := Hg4.out; have e2 := Hg5.out; omega)).mono (by have e0 := Hg3.out; have e1 := Hg4.out; have e2 := Hg5.out; omega))
    have z10 := t.size
    clear t oG
    have c_p0_0 := blk_cell (o := 0) p0 rfl
    have c_qB_0 := blk_cell (o := 0) qB rfl
    have c_qB_1 := blk_cell (o := 1) qB rfl
    have c_qB_2 := blk_cell (o := 2) qB rfl
    have c_q0_0 := blk_cell (o := 0) q0 rfl
    have c_qG_0 := blk_cell (o := 0) qG rfl
    have c_qG_1 := blk_cell (o := 1) qG rfl
    have c_qG_2 := blk_cell (o := 2) qG rfl
    go_wp2_with fail
    refine (HB.out G1a g1a_ G1b g1b_ _ oM.rd).mono ?_
    rintro e w11 ⟨rfl, k⟩
    clear c_p0_0 c_qB_0 c_qB_1 c_qB_2 c_q0_0 c_qG_0 c_qG_1 c_qG_2
    replace p0 := blk_below k p0
    replace qB := blk_below k qB
    replace q0 := blk_below k q0
    replace qG := blk_below k qG
    replace oM := oM.keep k
    replace hB := below_step hB k
    replace T := below_step T k
    have z11 := k.size
    clear k
    have c_p0_0 := blk_cell (o := 0) p0 rfl
    have c_qB_0 := blk_cell (o := 0) qB rfl
    have c_qB_1 := blk_cell (o := 1) qB rfl
    have c_qB_2 := blk_cell (o := 2) qB rfl
    have c_q0_0 := blk_cell (o := 0) q0 rfl
    have c_qG_0 := blk_cell (o := 0) qG rfl
    have c_qG_1 := blk_cell (o := 1) qG rfl
    have c_qG_2 := blk_cell (o := 2) qG rfl
    go_wp2_with fail
    refine (TO0.out _ (HX0.out.keep hB)).mono ?_
    rintro e w12 ⟨V0a, v0a_, rfl, rv0, k⟩
    clear c_p0_0 c_qB_0 c_qB_1 c_qB_2 c_q0_0 c_qG_0 c_qG_1 c_qG_2
    replace p0 := blk_below k p0
    replace qB := blk_below k qB
    replace q0 := blk_below k q0
    replace qG := blk_below k qG
    replace oM := oM.keep k
    replace hB := below_step hB k
    replace T := below_step T k
    have z12 := k.size
    have rv0 := (OwnPI.of rv0).rd
    clear k
    have c_p0_0 := blk_cell (o := 0) p0 rfl
    have c_qB_0 := blk_cell (o := 0) qB rfl
    have c_qB_1 := blk_cell (o := 1) qB rfl
    have c_qB_2 := blk_cell (o := 2) qB rfl
    have c_q0_0 := blk_cell (o := 0) q0 rfl
    have c_qG_0 := blk_cell (o := 0) qG rfl
    have c_qG_1 := blk_cell (o := 1) qG rfl
    have c_qG_2 := blk_cell (o := 2) qG rfl
    go_wp2_with fail
    refine (C2.out _ V0a v0a_ rv0).mono ?_
    rintro e w13 ⟨H2a, h2a_, H2b, h2b_, rfl, oH, k⟩
    clear c_p0_0 c_qB_0 c_qB_1 c_qB_2 c_q0_0 c_qG_0 c_qG_1 c_qG_2
    replace p0 := blk_below k p0
    replace qB := blk_below k qB
    replace q0 := blk_below k q0
    replace qG := blk_below k qG
    replace oM := oM.keep k
    replace hB := below_step hB k
    replace T := below_step T k
    have z13 := k.size
    clear k
    have oH := OwnNI.of0 oH
    have ka := below_alloc w13 (.cells #[.int .i64 rs, .slice H2a ra.length h2a_, .slice H2b rb.length h2b_] 29)
    have qH := heap_alloc_new w13 (.cells #[.int .i64 rs, .slice H2a ra.length h2a_, .slice H2b rb.length h2b_] 29)
    have zz : w13.heap.size < (w13.alloc (.cells #[.int .i64 rs, .slice H2a ra.length h2a_, .slice H2b rb.length h2b_] 29)).heap.size := by simp
    replace p0 := blk_below ka p0
    replace qB := blk_below ka qB
    replace q0 := blk_below ka q0
    replace qG := blk_below ka qG
    replace oM := oM.keep ka
    replace oH := oH.keep ka
    replace hB := below_step hB ka
    replace T := below_step T ka
    have z13 := ka.size
    obtain ⟨g13, hg13⟩ : ∃ g, w13.heap.size = g := ⟨_, rfl⟩
    obtain ⟨W13, hW13⟩ : ∃ W, w13.alloc (.cells #[.int .i64 rs, .slice H2a ra.length h2a_, .slice H2b rb.length h2b_] 29) = W := ⟨_, rfl⟩
    have Hg13 := Lib.hid hg13
    rw [hW13] at p0 qB q0 qG oM oH hB zz qH T
    rw [hg13] at zz qH
    try rw [hg13] at oM
    try rw [hg13] at oH
    have hz_qH := zz
    clear ka zz z13
    have c_p0_0 := blk_cell (o := 0) p0 rfl
    have c_qB_0 := blk_cell (o := 0) qB rfl
    have c_qB_1 := blk_cell (o := 1) qB rfl
    have c_qB_2 := blk_cell (o := 2) qB rfl
    have c_q0_0 := blk_cell (o := 0) q0 rfl
    have c_qG_0 := blk_cell (o := 0) qG rfl
    have c_qG_1 := blk_cell (o := 1) qG rfl
    have c_qG_2 := blk_cell (o := 2) qG rfl
    have c_qH_0 := blk_cell (o := 0) qH rfl
    have c_qH_1 := blk_cell (o := 1) qH rfl
    have c_qH_2 := blk_cell (o := 2) qH rfl
    go_wp2_with fail
    clear hW13 hg13
    refine (EQ.out H2a h2a_ H2b h2b_ B0a b0a_ B0b b0b_ _ oH.rd (RB.out.below T)).mono ?_
    rintro e w14 ⟨rfl, k⟩
    clear c_p0_0 c_qB_0 c_qB_1 c_qB_2 c_q0_0 c_qG_0 c_qG_1 c_qG_2 c_qH_0 c_qH_1 c_qH_2
    replace p0 := blk_below k p0
    replace qB := blk_below k qB
    replace q0 := blk_below k q0
    replace qG := blk_below k qG
    replace qH := blk_below k qH
    replace oM := oM.keep k
    replace hB := below_step hB k
    replace T := below_step T k
    have z14 := k.size
    clear k oH
    have c_p0_0 := blk_cell (o := 0) p0 rfl
    have c_qB_0 := blk_cell (o := 0) qB rfl
    have c_qB_1 := blk_cell (o := 1) qB rfl
    have c_qB_2 := blk_cell (o := 2) qB rfl
    have c_q0_0 := blk_cell (o := 0) q0 rfl
    have c_qG_0 := blk_cell (o := 0) qG rfl
    have c_qG_1 := blk_cell (o := 1) qG rfl
    have c_qG_2 := blk_cell (o := 2) qG rfl
    have c_qH_0 := blk_cell (o := 0) qH rfl
    have c_qH_1 := blk_cell (o := 1) qH rfl
    have c_qH_2 := blk_cell (o := 2) qH rfl
    go_wp2_with fail
    refine (HB.out G1a g1a_ G1b g1b_ _ oM.rd).mono ?_
    rintro e w15 ⟨rfl, k⟩
    clear c_p0_0 c_qB_0 c_qB_1 c_qB_2 c_q0_0 c_qG_0 c_qG_1 c_qG_2 c_qH_0 c_qH_1 c_qH_2
    replace hB := below_step hB k
    go_wp2
    go_ret
    exact ⟨rfl, hB⟩
  · rw [szP_no hb2] at S1
    go_enter Try.func3, Try.ntmps3
    go_wp2_with fail
    refine S1.out.mono ?_
    rintro e w1 ⟨rfl, k⟩
    go_wp2
    go_ret
    exact ⟨rfl, below_step hB0 k⟩
end Go.Proofs.Ytjlekcoikceidaa
