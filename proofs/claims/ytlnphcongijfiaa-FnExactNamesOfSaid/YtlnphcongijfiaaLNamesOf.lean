/- NamesOf: program and reference return the same, leave their arguments as they were, and what is returned is the caller's own. No conditions. Printed by xlgen.py. -/
import Derived.Test.YtlnphcongijfiaaNames2
import Derived.Test.YtlnphcongijfiaaQMark
import Derived.Deep.RegionHeld3
namespace Go.Proofs.Ytlnphcongijfiaa
open Go.RowKit

theorem eqQuery_sameN (ea : Bool) (A B C A' B' C' : Option Addr) (c d f c' d' f' : Nat) (os : List ByteArray) (as_ : List At) (fs : List Fl) (w : World) (hx : RdQ w A B C os as_ fs) (hy : RdQ w A' B' C' os as_ fs) (hn : os.length ≤ 4294967296) (hm : as_.length ≤ 4294967296) (hf : fs.length ≤ 4294967296) :
    Calls Try.prog 12 #[.agg #[.bool ea, .slice A os.length c, .slice B as_.length d, .slice C fs.length f], .agg #[.bool ea, .slice A' os.length c', .slice B' as_.length d', .slice C' fs.length f']] w fun e w' => e = .returned (.bool true) ∧ Below w.heap.size w w' := by
  refine (eqQuery_any ea ea A B C A' B' C' c d f c' d' f' os os as_ as_ fs fs w hx hy hn ⟨hm, hm⟩ ⟨hf, hf⟩).mono ?_
  rintro e w1 ⟨rfl, hb⟩
  exact ⟨by rw [PP_yes ⟨rfl, rfl, rfl, rfl⟩], hb⟩

set_option maxRecDepth 100000 in
set_option maxHeartbeats 6400000 in
theorem FnExactNamesOf_walk (w : World) (v0 : Value) (ea : Bool) (os : List ByteArray) (as_ : List At) (fs : List Fl) (h0 : QrK w v0 ea os as_ fs) :
    Calls Try.prog 4 #[v0] w fun e w' => e = .returned (.bool true) ∧ Below w.heap.size w w' := by
  obtain ⟨A, c, B, d, C, f, rfl, hx, hok, hl1, hl2, hl3⟩ := h0
  have hB0 := below_alloc w (.cells #[.bool ea, .slice A os.length c, .slice B as_.length d, .slice C fs.length f] 26)
  have p0 := heap_alloc_new w (.cells #[.bool ea, .slice A os.length c, .slice B as_.length d, .slice C fs.length f] 26)
  have HX0 := Lib.hid hx
  have S0 := Lib.hid (szQuery_any ea A B C c d f os as_ fs 1048576 (w.alloc (.cells #[.bool ea, .slice A os.length c, .slice B as_.length d, .slice C fs.length f] 26)) (hx.below hB0) hok (by omega) ⟨hl1, hl2, hl3⟩)
  clear hx hok
  have HT : Hid (totQ os as_ fs = os.length + totS os + (as_.length + totA_ as_) + (fs.length + totF_ fs)) := Lib.hid rfl
  obtain ⟨t, htt⟩ : ∃ t, totQ os as_ fs = t := ⟨_, rfl⟩
  rw [htt] at S0 HT
  clear htt
  by_cases hb1 : (t : Int) ≤ 1048576
  · rw [show szT t 1048576 = 1048576 - t by unfold szT; rw [if_pos hb1]] at S0
    have hn : os.length ≤ 1048576 := by have := HT.out; omega
    have hm : as_.length ≤ 1048576 := by have := HT.out; omega
    have hf : fs.length ≤ 1048576 := by have := HT.out; omega
    have hq : decide ((1048576 : Int) - (t : Int) < 0) = false := decide_eq_false (by omega)
    have hzl := namesL_len as_
    have C1 := Lib.hid (fun (w : World) (A0 : Option Addr) (c0 : Nat) (A1 : Option Addr) (c1 : Nat) (A2 : Option Addr) (c2 : Nat) (h0 : RdQ w A0 A1 A2 os as_ fs) => spec_NamesOf_any ea A0 A1 A2 c0 c1 c2 os as_ fs w h0 hm)
    have C2 := Lib.hid (fun (w : World) (A0 : Option Addr) (c0 : Nat) (A1 : Option Addr) (c1 : Nat) (A2 : Option Addr) (c2 : Nat) (h0 : RdQ w A0 A1 A2 os as_ fs) => impl_NamesOf_any ea A0 A1 A2 c0 c1 c2 os as_ fs w h0 hm)
    unfold MadeT_ at C1 C2
    obtain ⟨zs, hzs⟩ : ∃ zs, namesL as_ = zs := ⟨_, rfl⟩
    rw [hzs] at C1 C2 hzl
    have hzn : zs.length ≤ 4194304 := by omega
    have TO0 := Lib.hid (fun (w : World) (h : RdQ w A B C os as_ fs) => toQuery_any ea A B C c d f os as_ fs w h (by omega) (by omega) (by omega))
    unfold MadeQ at TO0
    have EQ0 := Lib.hid (fun (A0 : Option Addr) (c0 : Nat) (A1 : Option Addr) (c1 : Nat) (A2 : Option Addr) (c2 : Nat) (B0 : Option Addr) (d0 : Nat) (B1 : Option Addr) (d1 : Nat) (B2 : Option Addr) (d2 : Nat) (w : World) (h : RdQ w A0 A1 A2 os as_ fs) (h' : RdQ w B0 B1 B2 os as_ fs) => eqQuery_sameN ea A0 A1 A2 B0 B1 B2 c0 c1 c2 d0 d1 d2 os as_ fs w h h' (by omega) (by omega) (by omega))
    have EQ := Lib.hid (fun (A0 : Option Addr) (c0 : Nat) (B0 : Option Addr) (d0 : Nat) (w : World) (h : RdS w A0 zs) (h' : RdS w B0 zs) => by have := eqStringS_any A0 B0 zs.length zs.length c0 d0 zs zs w h h' (by omega); rw [eqLT_yes rfl] at this; exact this)
    have MB0 := Lib.hid (fun (lo hi : Nat) (A0 : Option Addr) (c0 : Nat) (A1 : Option Addr) (c1 : Nat) (A2 : Option Addr) (c2 : Nat) (w : World) (h : OwnQI w lo hi A0 A1 A2 c0 c1 c2 os as_ fs) (hl : hi ≤ w.heap.size) => markQuery_any lo hi ea A0 A1 A2 c0 c1 c2 os as_ fs w h hn hm hf hl)
    unfold MarkedQ at MB0
    have MB := Lib.hid (fun (lo hi : Nat) (A0 : Option Addr) (c0 : Nat) (w : World) (h : OwnTI w lo hi A0 c0 zs) => markTexts_any lo hi A0 c0 zs 1 w h (by omega) (by omega))
    unfold MarkedTI at MB
    have hml := marksT_len 1 zs.length
    obtain ⟨ms, hms⟩ : ∃ ms, marksT 1 zs.length = ms := ⟨_, rfl⟩
    have HB := Lib.hid (fun (A0 : Option Addr) (c0 : Nat) (w : World) (h : RdS w A0 ms) => heldStringS_any A0 zs.length c0 1 w (by rw [hms]; have := h; unfold RdS at this; rw [← hms, marksT_len] at this; rw [← hms]; exact this) (by omega) (by omega))
    rw [hms] at MB
    have HMS : Hid (ms.length = zs.length) := Lib.hid (by rw [← hms]; exact hml)
    clear hzs hml hms
    obtain ⟨zn, hzn'⟩ : ∃ n, zs.length = n := ⟨_, rfl⟩
    have HZN := Lib.hid hzn'
    clear hzn'
    go_enter Try.func4, Try.ntmps4
    go_wp2_with fail
    refine S0.out.mono ?_
    rintro e w1 ⟨rfl, k⟩
    have z1 := k.size
    have hB := below_step hB0 k
    replace p0 := blk_below k p0
    have hz_p0 := blk_lt p0
    clear k hB0
    have c_p0_0 := blk_cell (o := 0) p0 rfl
    have c_p0_1 := blk_cell (o := 1) p0 rfl
    have c_p0_2 := blk_cell (o := 2) p0 rfl
    have c_p0_3 := blk_cell (o := 3) p0 rfl
    go_wp2_with fail
    refine (TO0.out _ (HX0.out.below hB)).mono ?_
    rintro e w2 ⟨U0a, u0a_, U0b, u0b_, U0c, u0c_, rfl, ru0, k⟩
    clear c_p0_0 c_p0_1 c_p0_2 c_p0_3
    replace p0 := blk_below k p0
    replace hB := below_step hB k
    have z2 := k.size
    have ru0 := (OwnQI.of ru0).rd
    clear k
    have c_p0_0 := blk_cell (o := 0) p0 rfl
    have c_p0_1 := blk_cell (o := 1) p0 rfl
    have c_p0_2 := blk_cell (o := 2) p0 rfl
    have c_p0_3 := blk_cell (o := 3) p0 rfl
    go_wp2_with fail
    refine (C1.out _ U0a u0a_ U0b u0b_ U0c u0c_ ru0).mono ?_
    rintro e w3 ⟨B0a, b0a_, rfl, oB, k⟩
    clear c_p0_0 c_p0_1 c_p0_2 c_p0_3
    replace p0 := blk_below k p0
    replace hB := below_step hB k
    have z3 := k.size
    clear k
    have c_p0_0 := blk_cell (o := 0) p0 rfl
    have c_p0_1 := blk_cell (o := 1) p0 rfl
    have c_p0_2 := blk_cell (o := 2) p0 rfl
    have c_p0_3 := blk_cell (o := 3) p0 rfl
    go_wp2_with fail
    have RB := Lib.hid (OwnTI.of oB).rd
    clear oB
    have T : Below w3.heap.size w3 w3 := Below.refl _ _
    refine (TO0.out _ (HX0.out.below hB)).mono ?_
    rintro e w4 ⟨X0a, x0a_, X0b, x0b_, X0c, x0c_, rfl, o0, k⟩
    clear c_p0_0 c_p0_1 c_p0_2 c_p0_3
    have o0 := OwnQI.of o0
    replace p0 := blk_below k p0
    replace hB := below_step hB k
    replace T := below_step T k
    have z4 := k.size
    clear k
    have ka := below_alloc w4 (.cells #[.bool ea, .slice X0a os.length x0a_, .slice X0b as_.length x0b_, .slice X0c fs.length x0c_] 32)
    have q0 := heap_alloc_new w4 (.cells #[.bool ea, .slice X0a os.length x0a_, .slice X0b as_.length x0b_, .slice X0c fs.length x0c_] 32)
    have zz : w4.heap.size < (w4.alloc (.cells #[.bool ea, .slice X0a os.length x0a_, .slice X0b as_.length x0b_, .slice X0c fs.length x0c_] 32)).heap.size := by simp
    replace p0 := blk_below ka p0
    replace o0 := o0.keep ka
    replace hB := below_step hB ka
    replace T := below_step T ka
    have z4 := ka.size
    obtain ⟨g4, hg4⟩ : ∃ g, w4.heap.size = g := ⟨_, rfl⟩
    obtain ⟨W4, hW4⟩ : ∃ W, w4.alloc (.cells #[.bool ea, .slice X0a os.length x0a_, .slice X0b as_.length x0b_, .slice X0c fs.length x0c_] 32) = W := ⟨_, rfl⟩
    have Hg4 := Lib.hid hg4
    rw [hW4] at p0 o0 hB zz q0 T
    rw [hg4] at zz q0
    try rw [hg4] at o0
    have hz_q0 := zz
    clear ka zz z4
    have c_p0_0 := blk_cell (o := 0) p0 rfl
    have c_p0_1 := blk_cell (o := 1) p0 rfl
    have c_p0_2 := blk_cell (o := 2) p0 rfl
    have c_p0_3 := blk_cell (o := 3) p0 rfl
    have c_q0_0 := blk_cell (o := 0) q0 rfl
    have c_q0_1 := blk_cell (o := 1) q0 rfl
    have c_q0_2 := blk_cell (o := 2) q0 rfl
    have c_q0_3 := blk_cell (o := 3) q0 rfl
    go_wp2_with fail
    clear hW4 hg4
    refine (C2.out _ X0a x0a_ X0b x0b_ X0c x0c_ o0.rd).mono ?_
    rintro e w5 ⟨G1a, g1a_, rfl, oG, k⟩
    clear c_p0_0 c_p0_1 c_p0_2 c_p0_3 c_q0_0 c_q0_1 c_q0_2 c_q0_3
    have oG := OwnTI.of oG
    replace p0 := blk_below k p0
    replace q0 := blk_below k q0
    replace o0 := o0.keep k
    replace hB := below_step hB k
    replace T := below_step T k
    have z5 := k.size
    clear k
    have c_p0_0 := blk_cell (o := 0) p0 rfl
    have c_p0_1 := blk_cell (o := 1) p0 rfl
    have c_p0_2 := blk_cell (o := 2) p0 rfl
    have c_p0_3 := blk_cell (o := 3) p0 rfl
    have c_q0_0 := blk_cell (o := 0) q0 rfl
    have c_q0_1 := blk_cell (o := 1) q0 rfl
    have c_q0_2 := blk_cell (o := 2) q0 rfl
    have c_q0_3 := blk_cell (o := 3) q0 rfl
    go_wp2_with fail
    refine (EQ.out G1a g1a_ B0a b0a_ _ oG.rd (RB.out.below T)).mono ?_
    rintro e w6 ⟨rfl, k⟩
    clear c_p0_0 c_p0_1 c_p0_2 c_p0_3 c_q0_0 c_q0_1 c_q0_2 c_q0_3
    replace p0 := blk_below k p0
    replace q0 := blk_below k q0
    replace o0 := o0.keep k
    replace oG := oG.keep k
    replace hB := below_step hB k
    replace T := below_step T k
    have z6 := k.size
    clear k
    have MK := Lib.hid (fun (w' : World) (hk : Below w6.heap.size w6 w') => (⟨blk_cell (o := 0) (blk_below hk p0) rfl, blk_cell (o := 1) (blk_below hk p0) rfl, blk_cell (o := 2) (blk_below hk p0) rfl, blk_cell (o := 3) (blk_below hk p0) rfl, blk_cell (o := 0) (blk_below hk q0) rfl, blk_cell (o := 1) (blk_below hk q0) rfl, blk_cell (o := 2) (blk_below hk q0) rfl, blk_cell (o := 3) (blk_below hk q0) rfl, hk⟩ : w'.cell? ⟨w.heap.size, 0, none⟩ = some (.bool ea) ∧ w'.cell? ⟨w.heap.size, 1, none⟩ = some (.slice A os.length c) ∧ w'.cell? ⟨w.heap.size, 2, none⟩ = some (.slice B as_.length d) ∧ w'.cell? ⟨w.heap.size, 3, none⟩ = some (.slice C fs.length f) ∧ w'.cell? ⟨g4, 0, none⟩ = some (.bool ea) ∧ w'.cell? ⟨g4, 1, none⟩ = some (.slice X0a os.length x0a_) ∧ w'.cell? ⟨g4, 2, none⟩ = some (.slice X0b as_.length x0b_) ∧ w'.cell? ⟨g4, 3, none⟩ = some (.slice X0c fs.length x0c_) ∧ Below w6.heap.size w6 w'))
    have B0' : Below w6.heap.size w6 w6.drew := (Below.refl _ _).drew
    have RX := Lib.hid o0.rd
    have HBc := Lib.hid hB
    have c_p0_0 := blk_cell (o := 0) p0 rfl
    have c_p0_1 := blk_cell (o := 1) p0 rfl
    have c_p0_2 := blk_cell (o := 2) p0 rfl
    have c_p0_3 := blk_cell (o := 3) p0 rfl
    have c_q0_0 := blk_cell (o := 0) q0 rfl
    have c_q0_1 := blk_cell (o := 1) q0 rfl
    have c_q0_2 := blk_cell (o := 2) q0 rfl
    have c_q0_3 := blk_cell (o := 3) q0 rfl
    go_wp2_with fail
    go_region_held3 (fun w' => w'.cell? ⟨w.heap.size, 0, none⟩ = some (.bool ea) ∧ w'.cell? ⟨w.heap.size, 1, none⟩ = some (.slice A os.length c) ∧ w'.cell? ⟨w.heap.size, 2, none⟩ = some (.slice B as_.length d) ∧ w'.cell? ⟨w.heap.size, 3, none⟩ = some (.slice C fs.length f) ∧ w'.cell? ⟨g4, 0, none⟩ = some (.bool ea) ∧ w'.cell? ⟨g4, 1, none⟩ = some (.slice X0a os.length x0a_) ∧ w'.cell? ⟨g4, 2, none⟩ = some (.slice X0b as_.length x0b_) ∧ w'.cell? ⟨g4, 3, none⟩ = some (.slice X0c fs.length x0c_) ∧ Below w6.heap.size w6 w')
      ((first
        | (exact MK.out _ B0')
        | assumption
        | (go_split_ands; exact MK.out _ (below_step (by assumption) hbk))))
      ((first
        | (go_at_call 10; go_split_ands; refine (TO0.out _ (HX0.out.below (below_step HBc.out (by assumption)))).mono ?_; rintro e w' ⟨Y0a, y0a_, Y0b, y0b_, Y0c, y0c_, rfl, o3, hbk⟩; have r3 := (OwnQI.of o3).rd; clear o3)
        | (go_at_call 12; go_split_ands; refine (EQ0.out X0a x0a_ X0b x0b_ X0c x0c_ _ _ _ _ _ _ _ (RX.out.below (by assumption)) r3).mono ?_; rintro e w' ⟨rfl, hbk⟩)))
    obtain ⟨w7, rfl⟩ : ∃ wq : World, wq = w' := ⟨_, rfl⟩
    go_split_ands
    have U : Below w6.heap.size w6 w7 := by assumption
    clear c_p0_0 c_p0_1 c_p0_2 c_p0_3 c_q0_0 c_q0_1 c_q0_2 c_q0_3 MK B0' RX HBc
    replace p0 := blk_below U p0
    replace q0 := blk_below U q0
    replace o0 := o0.keep U
    replace oG := oG.keep U
    replace hB := below_step hB U
    replace T := below_step T U
    have z7 := U.size
    clear U
    have c_p0_0 := blk_cell (o := 0) p0 rfl
    have c_p0_1 := blk_cell (o := 1) p0 rfl
    have c_p0_2 := blk_cell (o := 2) p0 rfl
    have c_p0_3 := blk_cell (o := 3) p0 rfl
    have c_q0_0 := blk_cell (o := 0) q0 rfl
    have c_q0_1 := blk_cell (o := 1) q0 rfl
    have c_q0_2 := blk_cell (o := 2) q0 rfl
    have c_q0_3 := blk_cell (o := 3) q0 rfl
    go_wp2_with fail
    refine (MB0.out _ _ X0a x0a_ X0b x0b_ X0c x0c_ _ o0 (by have e0 := Hg4.out; omega)).mono ?_
    rintro e w8 ⟨kq0, rfl, hkq0, t⟩
    clear c_p0_0 c_p0_1 c_p0_2 c_p0_3 c_q0_0 c_q0_1 c_q0_2 c_q0_3
    replace p0 := t.blk p0 (by have e0 := Hg4.out; omega)
    replace q0 := t.blk q0 (by have e0 := Hg4.out; omega)
    replace oG := oG.touch t (by have e0 := Hg4.out; omega)
    replace hB := hB.trans ((t.below (by have e0 := Hg4.out; omega)).mono (by have e0 := Hg4.out; omega))
    replace T := T.trans ((t.below (by have e0 := Hg4.out; omega)).mono (by have e0 := Hg4.out; omega))
    have z8 := t.size
    clear t o0
    have c_p0_0 := blk_cell (o := 0) p0 rfl
    have c_p0_1 := blk_cell (o := 1) p0 rfl
    have c_p0_2 := blk_cell (o := 2) p0 rfl
    have c_p0_3 := blk_cell (o := 3) p0 rfl
    have c_q0_0 := blk_cell (o := 0) q0 rfl
    have c_q0_1 := blk_cell (o := 1) q0 rfl
    have c_q0_2 := blk_cell (o := 2) q0 rfl
    have c_q0_3 := blk_cell (o := 3) q0 rfl
    go_wp2_with fail
    refine (EQ.out G1a g1a_ B0a b0a_ _ oG.rd (RB.out.below T)).mono ?_
    rintro e w9 ⟨rfl, k⟩
    clear c_p0_0 c_p0_1 c_p0_2 c_p0_3 c_q0_0 c_q0_1 c_q0_2 c_q0_3
    replace p0 := blk_below k p0
    replace q0 := blk_below k q0
    replace oG := oG.keep k
    replace hB := below_step hB k
    replace T := below_step T k
    have z9 := k.size
    clear k
    have c_p0_0 := blk_cell (o := 0) p0 rfl
    have c_p0_1 := blk_cell (o := 1) p0 rfl
    have c_p0_2 := blk_cell (o := 2) p0 rfl
    have c_p0_3 := blk_cell (o := 3) p0 rfl
    have c_q0_0 := blk_cell (o := 0) q0 rfl
    have c_q0_1 := blk_cell (o := 1) q0 rfl
    have c_q0_2 := blk_cell (o := 2) q0 rfl
    have c_q0_3 := blk_cell (o := 3) q0 rfl
    go_wp2_with fail
    refine (MB.out _ _ G1a g1a_ _ oG).mono ?_
    rintro e w10 ⟨rfl, oM, t⟩
    clear c_p0_0 c_p0_1 c_p0_2 c_p0_3 c_q0_0 c_q0_1 c_q0_2 c_q0_3
    replace p0 := t.blk p0 (by have e0 := Hg4.out; omega)
    replace q0 := t.blk q0 (by have e0 := Hg4.out; omega)
    replace hB := hB.trans ((t.below (by have e0 := Hg4.out; omega)).mono (by have e0 := Hg4.out; omega))
    replace T := T.trans ((t.below (by have e0 := Hg4.out; omega)).mono (by have e0 := Hg4.out; omega))
    have z10 := t.size
    clear t oG
    have c_p0_0 := blk_cell (o := 0) p0 rfl
    have c_p0_1 := blk_cell (o := 1) p0 rfl
    have c_p0_2 := blk_cell (o := 2) p0 rfl
    have c_p0_3 := blk_cell (o := 3) p0 rfl
    have c_q0_0 := blk_cell (o := 0) q0 rfl
    have c_q0_1 := blk_cell (o := 1) q0 rfl
    have c_q0_2 := blk_cell (o := 2) q0 rfl
    have c_q0_3 := blk_cell (o := 3) q0 rfl
    go_wp2_with fail
    refine (HB.out G1a g1a_ _ oM.rd).mono ?_
    rintro e w11 ⟨rfl, k⟩
    clear c_p0_0 c_p0_1 c_p0_2 c_p0_3 c_q0_0 c_q0_1 c_q0_2 c_q0_3
    replace p0 := blk_below k p0
    replace q0 := blk_below k q0
    replace oM := oM.keep k
    replace hB := below_step hB k
    replace T := below_step T k
    have z11 := k.size
    clear k
    have c_p0_0 := blk_cell (o := 0) p0 rfl
    have c_p0_1 := blk_cell (o := 1) p0 rfl
    have c_p0_2 := blk_cell (o := 2) p0 rfl
    have c_p0_3 := blk_cell (o := 3) p0 rfl
    have c_q0_0 := blk_cell (o := 0) q0 rfl
    have c_q0_1 := blk_cell (o := 1) q0 rfl
    have c_q0_2 := blk_cell (o := 2) q0 rfl
    have c_q0_3 := blk_cell (o := 3) q0 rfl
    go_wp2_with fail
    refine (TO0.out _ (HX0.out.below hB)).mono ?_
    rintro e w12 ⟨V0a, v0a_, V0b, v0b_, V0c, v0c_, rfl, rv0, k⟩
    clear c_p0_0 c_p0_1 c_p0_2 c_p0_3 c_q0_0 c_q0_1 c_q0_2 c_q0_3
    replace p0 := blk_below k p0
    replace q0 := blk_below k q0
    replace oM := oM.keep k
    replace hB := below_step hB k
    replace T := below_step T k
    have z12 := k.size
    have rv0 := (OwnQI.of rv0).rd
    clear k
    have c_p0_0 := blk_cell (o := 0) p0 rfl
    have c_p0_1 := blk_cell (o := 1) p0 rfl
    have c_p0_2 := blk_cell (o := 2) p0 rfl
    have c_p0_3 := blk_cell (o := 3) p0 rfl
    have c_q0_0 := blk_cell (o := 0) q0 rfl
    have c_q0_1 := blk_cell (o := 1) q0 rfl
    have c_q0_2 := blk_cell (o := 2) q0 rfl
    have c_q0_3 := blk_cell (o := 3) q0 rfl
    go_wp2_with fail
    refine (C2.out _ V0a v0a_ V0b v0b_ V0c v0c_ rv0).mono ?_
    rintro e w13 ⟨H2a, h2a_, rfl, oH, k⟩
    clear c_p0_0 c_p0_1 c_p0_2 c_p0_3 c_q0_0 c_q0_1 c_q0_2 c_q0_3
    replace p0 := blk_below k p0
    replace q0 := blk_below k q0
    replace oM := oM.keep k
    replace hB := below_step hB k
    replace T := below_step T k
    have z13 := k.size
    clear k
    have oH := OwnTI.of oH
    have c_p0_0 := blk_cell (o := 0) p0 rfl
    have c_p0_1 := blk_cell (o := 1) p0 rfl
    have c_p0_2 := blk_cell (o := 2) p0 rfl
    have c_p0_3 := blk_cell (o := 3) p0 rfl
    have c_q0_0 := blk_cell (o := 0) q0 rfl
    have c_q0_1 := blk_cell (o := 1) q0 rfl
    have c_q0_2 := blk_cell (o := 2) q0 rfl
    have c_q0_3 := blk_cell (o := 3) q0 rfl
    go_wp2_with fail
    refine (EQ.out H2a h2a_ B0a b0a_ _ oH.rd (RB.out.below T)).mono ?_
    rintro e w14 ⟨rfl, k⟩
    clear c_p0_0 c_p0_1 c_p0_2 c_p0_3 c_q0_0 c_q0_1 c_q0_2 c_q0_3
    replace p0 := blk_below k p0
    replace q0 := blk_below k q0
    replace oM := oM.keep k
    replace hB := below_step hB k
    replace T := below_step T k
    have z14 := k.size
    clear k oH
    have c_p0_0 := blk_cell (o := 0) p0 rfl
    have c_p0_1 := blk_cell (o := 1) p0 rfl
    have c_p0_2 := blk_cell (o := 2) p0 rfl
    have c_p0_3 := blk_cell (o := 3) p0 rfl
    have c_q0_0 := blk_cell (o := 0) q0 rfl
    have c_q0_1 := blk_cell (o := 1) q0 rfl
    have c_q0_2 := blk_cell (o := 2) q0 rfl
    have c_q0_3 := blk_cell (o := 3) q0 rfl
    go_wp2_with fail
    refine (HB.out G1a g1a_ _ oM.rd).mono ?_
    rintro e w15 ⟨rfl, k⟩
    clear c_p0_0 c_p0_1 c_p0_2 c_p0_3 c_q0_0 c_q0_1 c_q0_2 c_q0_3
    replace hB := below_step hB k
    go_wp2
    go_ret
    exact ⟨rfl, hB⟩
  · rw [show szT t 1048576 = -1 by unfold szT; rw [if_neg hb1]] at S0
    go_enter Try.func4, Try.ntmps4
    go_wp2_with fail
    refine S0.out.mono ?_
    rintro e w1 ⟨rfl, k⟩
    go_wp2
    go_ret
    exact ⟨rfl, below_step hB0 k⟩
end Go.Proofs.Ytlnphcongijfiaa
