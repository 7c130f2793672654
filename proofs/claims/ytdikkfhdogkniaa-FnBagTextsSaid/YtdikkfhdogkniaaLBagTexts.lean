/- FnBagTexts: a drawn bag has a text just when it is right; the text reads back; a text that reads is the text of its bag. No conditions. Printed by xlbagtexts.py. -/
import Derived.Test.YtdikkfhdogkniaaDrawBT
import Derived.Test.YtdikkfhdogkniaaBtLaw
import Derived.Test.YtdikkfhdogkniaaSReadBag
import Derived.Test.YtdikkfhdogkniaaBig
import Derived.Test.YtdikkfhdogkniaaEach
namespace Go.Proofs.Ytdikkfhdogkniaa
open Go.RowKit

/-- What a text reads as, and what the text of that bag is. -/
theorem rb_val (t : ByteArray) : ∃ (es : List It) (b : Bool) (u : ByteArray) (r : Bool), oB (rbOut t) = es ∧ (rbOut t).isSome = b ∧ btVal es = .tuple #[.string u, .bool r] ∧ es.length ≤ 300 ∧ (∀ p ∈ es, p.r.length ≤ 4) ∧ (b = true → u = t) := by
  cases h : rbOut t with
  | none =>
    obtain ⟨u, r, hv⟩ := btVal_is []
    exact ⟨[], false, u, r, rfl, rfl, hv, by simp, by simp, by simp⟩
  | some ps =>
    obtain ⟨hg, ht⟩ := rb_back h
    exact ⟨ps, true, _, _, rfl, rfl, by unfold btVal; rw [if_pos (PP_yes hg)], hg.1, fun p hp => (hg.it hp).1.1, fun _ => ht⟩

set_option maxRecDepth 100000 in
set_option maxHeartbeats 6400000 in
theorem FnBagTexts_walk (w : World) (v0 : Value) (cs : List Int) (h0 : SlK w .u8 v0 cs) :
    Calls Try.prog 11 #[v0] w fun e w' => e = .returned (.bool true) ∧ Below w.heap.size w w' := by
  obtain ⟨A, n, c, rfl, hn, hcode⟩ := code0_of h0
  clear h0
  by_cases hbig : 1048576 < n
  · have B := Lib.hid (big_any A n c w hn)
    rw [show decide (1048576 < n) = true by simp; omega] at B
    clear hcode
    go_enter Try.func11, Try.ntmps11
    go_wp2_with fail
    refine B.out.mono ?_
    rintro e w1 ⟨rfl, rfl⟩
    go_wp2
    go_ret
    exact ⟨rfl, Below.refl _ _⟩
  · have B := Lib.hid (big_any A n c w hn)
    rw [show decide (1048576 < n) = false by simp; omega] at B
    have hc := hcode (by omega)
    clear hcode
    have HC := Lib.hid hc
    clear hc
    go_enter Try.func11, Try.ntmps11
    go_wp2_with fail
    refine B.out.mono ?_
    rintro e w1 ⟨rfl, rfl⟩
    clear B
    go_wp2_with fail
    refine (DrawBagText_any A n c cs _ HC.out).mono ?_
    rintro e w1 ⟨A1, c1, ps, rfl, hl1, hk1, own1, k1⟩
    obtain ⟨t, hv, hts, hrt⟩ := btVal_small hl1
    have HV := Lib.hid hv
    have HRT := Lib.hid hrt
    have HK := Lib.hid (fun p hp => by have := hk1 p hp; omega : ∀ p ∈ ps, p.r.length ≤ 4294967296)
    clear hv hrt hk1
    have ka := below_alloc w1 (.cells #[.slice A1 ps.length c1] 29)
    have Q1 := heap_alloc_new w1 (.cells #[.slice A1 ps.length c1] 29)
    have R1 := own1.rd.keep ka
    have HB := below_step k1 ka
    obtain ⟨q1, hq⟩ : ∃ q, w1.heap.size = q := ⟨_, rfl⟩
    rw [hq] at Q1
    obtain ⟨W1, hW⟩ : ∃ W, w1.alloc (.cells #[.slice A1 ps.length c1] 29) = W := ⟨_, rfl⟩
    rw [hW] at Q1 R1 HB
    have b1 := blk_cell (o := 0) Q1 rfl
    clear own1 k1 ka
    go_wp2_with fail
    clear hW hq
    refine (impl_BagText_any A1 c1 ps W1 R1 (by omega) HK.out).mono ?_
    rw [HV.out]
    rintro e w2 ⟨rfl, k⟩
    replace Q1 := blk_below k Q1
    replace R1 := R1.keep k
    replace HB := below_step HB k
    clear b1 HV k
    obtain ⟨r, hr⟩ : ∃ r, PP (BgOk ps) = r := ⟨_, rfl⟩
    rw [hr]
    have HR := Lib.hid hr
    clear hr
    obtain ⟨es2, b2, u2, r2, oe2, ob2, _, hl2, hk2, _⟩ := rb_val t
    go_wp2_with fail
    refine (impl_ReadBag_any t (by omega) w2).mono ?_
    unfold MadeBB
    rw [oe2, ob2]
    have OE2 := Lib.hid oe2
    have OB2 := Lib.hid ob2
    have HK2 := Lib.hid (fun p hp => by have := hk2 p hp; omega : ∀ p ∈ es2, p.r.length ≤ 4294967296)
    clear oe2 ob2 hk2
    rintro e w3 ⟨A2, c2, rfl, own2, k3⟩
    have ka := below_alloc w3 (.cells #[.slice A2 es2.length c2] 29)
    have kk := below_step k3 ka
    have Q2 := heap_alloc_new w3 (.cells #[.slice A2 es2.length c2] 29)
    have R2 := own2.rd.keep ka
    replace Q1 := blk_below kk Q1
    replace R1 := R1.keep kk
    replace HB := below_step HB kk
    obtain ⟨q2, hq⟩ : ∃ q, w3.heap.size = q := ⟨_, rfl⟩
    obtain ⟨W3, hW⟩ : ∃ W, w3.alloc (.cells #[.slice A2 es2.length c2] 29) = W := ⟨_, rfl⟩
    rw [hq, hW] at Q2
    rw [hW] at R2 Q1 R1 HB
    clear own2 k3 ka kk
    go_wp2_with fail
    clear hW hq
    refine (DrawReadBag_any A n c cs W3 (HC.out.keep HB)).mono ?_
    rintro e w4 ⟨t2, rfl, ht2, k⟩
    replace Q1 := blk_below k Q1
    replace R1 := R1.keep k
    replace Q2 := blk_below k Q2
    replace R2 := R2.keep k
    replace HB := below_step HB k
    clear k
    obtain ⟨es3, b3, u3, r3, oe3, ob3, hv3, hl3, hk3, hu3⟩ := rb_val t2
    have HV3 := Lib.hid hv3
    have HU3 := Lib.hid hu3
    have HK3 := Lib.hid (fun p hp => by have := hk3 p hp; omega : ∀ p ∈ es3, p.r.length ≤ 4294967296)
    have OE3 := Lib.hid oe3
    have OB3 := Lib.hid ob3
    clear hv3 hu3 hk3 oe3 ob3
    go_wp2_with fail
    refine (impl_ReadBag_any t2 (by omega) w4).mono ?_
    unfold MadeBB
    rw [OE3.out, OB3.out]
    rintro e w5 ⟨A3, c3, rfl, own5, k5⟩
    have ka := below_alloc w5 (.cells #[.slice A3 es3.length c3] 29)
    have kk := below_step k5 ka
    have Q3 := heap_alloc_new w5 (.cells #[.slice A3 es3.length c3] 29)
    have R3 := own5.rd.keep ka
    replace Q1 := blk_below kk Q1
    replace R1 := R1.keep kk
    replace Q2 := blk_below kk Q2
    replace R2 := R2.keep kk
    replace HB := below_step HB kk
    obtain ⟨q3, hq⟩ : ∃ q, w5.heap.size = q := ⟨_, rfl⟩
    obtain ⟨W5, hW⟩ : ∃ W, w5.alloc (.cells #[.slice A3 es3.length c3] 29) = W := ⟨_, rfl⟩
    rw [hq, hW] at Q3
    rw [hW] at R3 Q1 R1 Q2 R2 HB
    clear own5 k5 ka kk
    go_wp2_with fail
    clear hW hq
    refine (spec_ReadBag_any t2 (by omega) W5).mono ?_
    unfold MadeBB
    rw [OE3.out, OB3.out]
    rintro e w6 ⟨A4, c4, rfl, _, k6⟩
    have ka := below_alloc w6 (.cells #[.slice A4 es3.length c4] 29)
    have kk := below_step k6 ka
    replace Q1 := blk_below kk Q1
    replace R1 := R1.keep kk
    replace Q2 := blk_below kk Q2
    replace R2 := R2.keep kk
    replace Q3 := blk_below kk Q3
    replace R3 := R3.keep kk
    replace HB := below_step HB kk
    obtain ⟨W6, hW⟩ : ∃ W, w6.alloc (.cells #[.slice A4 es3.length c4] 29) = W := ⟨_, rfl⟩
    rw [hW] at R3 Q3 Q1 R1 Q2 R2 HB
    clear k6 ka kk OE3 OB3
    have b3' := blk_cell (o := 0) Q3 rfl
    go_wp2_with fail
    clear hW b3'
    refine (impl_BagText_any A3 c3 es3 W6 R3 (by omega) HK3.out).mono ?_
    rw [HV3.out]
    rintro e w7 ⟨rfl, k⟩
    replace Q1 := blk_below k Q1
    replace R1 := R1.keep k
    replace Q2 := blk_below k Q2
    replace R2 := R2.keep k
    replace HB := below_step HB k
    clear k Q3 R3 HV3 HK3
    have G1 := Lib.hid (fun w hx => spec_BagOk_any A1 c1 ps w hx (by omega) HK.out)
    have G2 := Lib.hid (fun w hx => impl_BagOk_any A1 c1 ps w hx (by omega) HK.out)
    rw [HR.out] at G1 G2
    have G3 := Lib.hid (fun w hx hy => sameBag_any A2 A1 c2 c1 es2 ps w hx hy (by omega) HK2.out)
    have hcase : (r = false) ∨ (r = true ∧ b2 = true ∧ PP (es2 = ps) = true) := by
      cases r
      · exact .inl rfl
      · refine .inr ⟨rfl, ?_⟩
        have hg : BgOk ps := PP_of HR.out
        have h1 := HRT.out hg
        have h3 := OE2.out
        have h4 := OB2.out
        rw [h1, rb_round hg] at h3 h4
        exact ⟨h4.symm, PP_yes h3.symm⟩
    have hcase3 : b3 = false ∨ (b3 = true ∧ u3 = t2) := by
      cases b3
      · exact .inl rfl
      · exact .inr ⟨rfl, HU3.out rfl⟩
    clear OE2 OB2 HU3 HRT HR
    have b0 := blk_cell (o := 0) Q1 rfl
    go_wp2_with fail
    refine (G1.out w7 R1).mono ?_
    rintro e w8 ⟨rfl, k⟩
    replace Q1 := blk_below k Q1
    replace R1 := R1.keep k
    replace Q2 := blk_below k Q2
    replace R2 := R2.keep k
    replace HB := below_step HB k
    clear k b0
    have b0 := blk_cell (o := 0) Q1 rfl
    have hrr : (r == r) = true := by simp
    go_wp2_with fail
    refine (G2.out w8 R1).mono ?_
    rintro e w9 ⟨rfl, k⟩
    replace Q1 := blk_below k Q1
    replace R1 := R1.keep k
    replace Q2 := blk_below k Q2
    replace R2 := R2.keep k
    replace HB := below_step HB k
    clear k b0
    rcases hcase with rfl | ⟨rfl, rfl, hpp⟩
    rotate_left 1
    · have b0 := blk_cell (o := 0) Q1 rfl
      have d0 := blk_cell (o := 0) Q2 rfl
      rw [hpp] at G3
      clear hpp
      go_wp2_with fail
      refine (G3.out w9 R2 R1).mono ?_
      rintro e w10 ⟨rfl, k10⟩
      have hb10 := below_step HB k10
      clear k10 b0 d0 Q1 Q2 R1 R2 HB
      rcases hcase3 with rfl | ⟨rfl, rfl⟩
      all_goals
        go_wp2
        go_ret
        exact ⟨rfl, hb10⟩
    · have hb10 := HB
      clear Q1 Q2 R1 R2 HB
      rcases hcase3 with rfl | ⟨rfl, rfl⟩
      all_goals
        go_wp2
        go_ret
        exact ⟨rfl, hb10⟩
end Go.Proofs.Ytdikkfhdogkniaa
