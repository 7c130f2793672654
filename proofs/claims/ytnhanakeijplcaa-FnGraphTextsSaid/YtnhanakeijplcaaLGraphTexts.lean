/- FnGraphTexts: a drawn graph has a text just when it is right; the text reads back; a text that reads is the text of its graph. No conditions. -/
import Derived.Test.YtnhanakeijplcaaDrawT
import Derived.Test.YtnhanakeijplcaaSame
import Derived.Test.YtnhanakeijplcaaReadGraph
import Derived.Test.YtnhanakeijplcaaSGraphOk
import Derived.Test.YtnhanakeijplcaaBig
namespace Go.Proofs.Ytnhanakeijplcaa
open Go.RowKit

theorem gtVal_pp (s : Int) (es : List Ed) (h : es.length ≤ 11) : ∃ t : ByteArray, gtVal s es = .tuple #[.string t, .bool (PP (GOk s es))] ∧ t.size ≤ 200 ∧ (GOk s es → rgOut t = some (s, es)) := by
  obtain ⟨t, b, hv, ht⟩ := gtVal_small (s := s) h
  by_cases hg : GOk s es
  · rw [PP_yes hg]
    rw [gtVal_yes hg] at hv ⊢
    refine ⟨_, rfl, ?_, fun _ => ?_⟩
    · injection hv with hv
      injection hv with hv
      injection hv with h1 h2
      injection h1 with h1
      rw [h1]
      exact ht
    · obtain ⟨sn, rfl⟩ : ∃ sn : Nat, s = sn := ⟨s.toNat, by have := hg.1; omega⟩
      exact rg_round hg
  · rw [PP_no hg, gtVal_no hg]
    exact ⟨_, rfl, by decide, fun h => absurd h hg⟩
/-- What a text reads as, and what the text of that graph is. -/
theorem rg_val (t : ByteArray) : ∃ (s : Int) (es : List Ed) (b : Bool) (u : ByteArray) (r : Bool), oS (rgOut t) = s ∧ oE (rgOut t) = es ∧ (rgOut t).isSome = b ∧ gtVal s es = .tuple #[.string u, .bool r] ∧ es.length ≤ 40 ∧ (∀ e ∈ es, 0 ≤ e.l ∧ e.l ≤ 255) ∧ (b = true → u = t) := by
  cases h : rgOut t with
  | none =>
    obtain ⟨u, r, hv, _⟩ := gtVal_small (s := 0) (es := []) (by simp)
    exact ⟨0, [], false, u, r, rfl, rfl, rfl, hv, by simp, by simp, by simp⟩
  | some p =>
    obtain ⟨s, es⟩ := p
    obtain ⟨hg, ht⟩ := rg_text h
    exact ⟨s, es, true, _, _, rfl, rfl, rfl, gtVal_yes hg, hg.2.1, gOk_lab hg, fun _ => ht⟩

set_option maxRecDepth 100000 in
set_option maxHeartbeats 6400000 in
theorem FnGraphTexts_walk (w : World) (v0 : Value) (cs : List Int) (h0 : SlK w .u8 v0 cs) :
    Calls Try.prog 9 #[v0] w fun e w' => e = .returned (.bool true) ∧ Below w.heap.size w w' := by
  obtain ⟨A, n, c, rfl, hn, hcode⟩ := code0_of h0
  clear h0
  by_cases hbig : 1048576 < n
  · have B := Lib.hid (big_any A n c w hn)
    rw [show decide (1048576 < n) = true by simp; omega] at B
    clear hcode
    go_enter Try.func9, Try.ntmps9
    go_wp2_with fail
    refine B.out.mono ?_
    rintro e w1 ⟨rfl, rfl⟩
    go_wp2
    go_ret
    exact ⟨rfl, Below.refl _ _⟩
  · have B := Lib.hid (big_any A n c w hn)
    rw [show decide (1048576 < n) = false by simp; omega] at B
    have hc := hcode (by omega)
    clear hcode
    have HC := Lib.hid hc
    clear hc
    go_enter Try.func9, Try.ntmps9
    go_wp2_with fail
    refine B.out.mono ?_
    rintro e w1 ⟨rfl, rfl⟩
    clear B
    go_wp2_with fail
    refine (DrawGraphText_any A n c cs _ HC.out).mono ?_
    rintro e w1 ⟨s, A1, c1, es, rfl, hl1, hlab, own1, k1⟩
    obtain ⟨t, hv, hts, hrt⟩ := gtVal_pp s es hl1
    have HV := Lib.hid hv
    have HRT := Lib.hid hrt
    have HL := Lib.hid hlab
    clear hv hrt hlab
    have ka := below_alloc w1 (.cells #[.int .i64 s, .slice A1 es.length c1] 26)
    have Q1 := Lib.hid (heap_alloc_new w1 (.cells #[.int .i64 s, .slice A1 es.length c1] 26))
    have R1 := Lib.hid (Rd.below (Rd.of_own own1) ka)
    have B1 := Lib.hid (below_step k1 ka)
    obtain ⟨q1, hq1⟩ : ∃ q, w1.heap.size = q := ⟨_, rfl⟩
    rw [hq1] at Q1
    obtain ⟨W1, hW1⟩ : ∃ W, w1.alloc (.cells #[.int .i64 s, .slice A1 es.length c1] 26) = W := ⟨_, rfl⟩
    rw [hW1] at Q1 R1 B1
    have b0 := blk_cell (o := 0) Q1.out rfl
    have b1 := blk_cell (o := 1) Q1.out rfl
    clear own1 k1 ka
    go_wp2_with fail
    refine (impl_GraphText_any s A1 c1 es W1 R1.out (by omega) HL.out).mono ?_
    rw [HV.out]
    rintro e w2 ⟨rfl, k2⟩
    have Q2 := Lib.hid (blk_below k2 Q1.out)
    have R2 := Lib.hid (Rd.below R1.out k2)
    have B2 := Lib.hid (below_step B1.out k2)
    clear hW1 hq1 b0 b1 HV k2 Q1 R1 B1
    obtain ⟨r, hr⟩ : ∃ r, PP (GOk s es) = r := ⟨_, rfl⟩
    rw [hr]
    have HR := Lib.hid hr
    clear hr
    obtain ⟨s2, es2, b2, u2, r2, os2, oe2, ob2, _, hl2, _, _⟩ := rg_val t
    go_wp2_with fail
    refine (impl_ReadGraph_any t (by omega) w2).mono ?_
    unfold MadeGB
    rw [os2, oe2, ob2]
    have OS2 := Lib.hid os2
    have OE2 := Lib.hid oe2
    have OB2 := Lib.hid ob2
    clear os2 oe2 ob2
    rintro e w3 ⟨A2, c2, rfl, own3, k3⟩
    have ka := below_alloc w3 (.cells #[.int .i64 s2, .slice A2 es2.length c2] 26)
    have kk := below_step k3 ka
    have P3 := Lib.hid (heap_alloc_new w3 (.cells #[.int .i64 s2, .slice A2 es2.length c2] 26))
    have S3 := Lib.hid (Rd.below (Rd.of_own own3) ka)
    have Q3 := Lib.hid (blk_below kk Q2.out)
    have R3 := Lib.hid (Rd.below R2.out kk)
    have B3 := Lib.hid (below_step B2.out kk)
    obtain ⟨q2, hq2⟩ : ∃ q, w3.heap.size = q := ⟨_, rfl⟩
    obtain ⟨W3, hW3⟩ : ∃ W, w3.alloc (.cells #[.int .i64 s2, .slice A2 es2.length c2] 26) = W := ⟨_, rfl⟩
    rw [hq2, hW3] at P3
    rw [hW3] at S3 Q3 R3 B3
    clear own3 k3 ka kk Q2 R2 B2
    go_wp2_with fail
    refine (DrawReadGraph_any A n c cs W3 (HC.out.keep B3.out)).mono ?_
    clear hW3 hq2
    rintro e w4 ⟨t2, rfl, ht2, k4⟩
    have P4 := Lib.hid (blk_below k4 P3.out)
    have S4 := Lib.hid (Rd.below S3.out k4)
    have Q4 := Lib.hid (blk_below k4 Q3.out)
    have R4 := Lib.hid (Rd.below R3.out k4)
    have B4 := Lib.hid (below_step B3.out k4)
    clear k4 P3 S3 Q3 R3 B3
    obtain ⟨s3, es3, b3, u3, r3, os3, oe3, ob3, hv3, hl3, hlb3, hu3⟩ := rg_val t2
    have HV3 := Lib.hid hv3
    have HLB3 := Lib.hid hlb3
    have HU3 := Lib.hid hu3
    clear hv3 hlb3 hu3
    go_wp2_with fail
    refine (impl_ReadGraph_any t2 (by omega) w4).mono ?_
    unfold MadeGB
    rw [os3, oe3, ob3]
    have OS3 := Lib.hid os3
    have OE3 := Lib.hid oe3
    have OB3 := Lib.hid ob3
    clear os3 oe3 ob3
    rintro e w5 ⟨A3, c3, rfl, own5, k5⟩
    have ka := below_alloc w5 (.cells #[.int .i64 s3, .slice A3 es3.length c3] 26)
    have kk := below_step k5 ka
    have O5 := Lib.hid (heap_alloc_new w5 (.cells #[.int .i64 s3, .slice A3 es3.length c3] 26))
    have T5 := Lib.hid (Rd.below (Rd.of_own own5) ka)
    have P5 := Lib.hid (blk_below kk P4.out)
    have S5 := Lib.hid (Rd.below S4.out kk)
    have Q5 := Lib.hid (blk_below kk Q4.out)
    have R5 := Lib.hid (Rd.below R4.out kk)
    have B5 := Lib.hid (below_step B4.out kk)
    obtain ⟨q3, hq3⟩ : ∃ q, w5.heap.size = q := ⟨_, rfl⟩
    obtain ⟨W5, hW5⟩ : ∃ W, w5.alloc (.cells #[.int .i64 s3, .slice A3 es3.length c3] 26) = W := ⟨_, rfl⟩
    rw [hq3, hW5] at O5
    rw [hW5] at T5 P5 S5 Q5 R5 B5
    clear own5 k5 ka kk P4 S4 Q4 R4 B4
    go_wp2_with fail
    refine (spec_ReadGraph_any t2 (by omega) W5).mono ?_
    clear hW5 hq3
    unfold MadeGB
    rw [OS3.out, OE3.out, OB3.out]
    rintro e w6 ⟨A4, c4, rfl, _, k6⟩
    have ka := below_alloc w6 (.cells #[.int .i64 s3, .slice A4 es3.length c4] 26)
    have kk := below_step k6 ka
    have O6 := Lib.hid (blk_below kk O5.out)
    have T6 := Lib.hid (Rd.below T5.out kk)
    have P6 := Lib.hid (blk_below kk P5.out)
    have S6 := Lib.hid (Rd.below S5.out kk)
    have Q6 := Lib.hid (blk_below kk Q5.out)
    have R6 := Lib.hid (Rd.below R5.out kk)
    have B6 := Lib.hid (below_step B5.out kk)
    obtain ⟨W6, hW6⟩ : ∃ W, w6.alloc (.cells #[.int .i64 s3, .slice A4 es3.length c4] 26) = W := ⟨_, rfl⟩
    rw [hW6] at O6 T6 P6 S6 Q6 R6 B6
    clear k6 ka kk O5 T5 P5 S5 Q5 R5 B5 OS3 OE3 OB3
    have b0 := blk_cell (o := 0) O6.out rfl
    have b1 := blk_cell (o := 1) O6.out rfl
    go_wp2_with fail
    refine (impl_GraphText_any s3 A3 c3 es3 W6 T6.out (by omega) HLB3.out).mono ?_
    clear hW6 b0 b1
    rw [HV3.out]
    rintro e w7 ⟨rfl, k7⟩
    have P7 := Lib.hid (blk_below k7 P6.out)
    have S7 := Lib.hid (Rd.below S6.out k7)
    have Q7 := Lib.hid (blk_below k7 Q6.out)
    have R7 := Lib.hid (Rd.below R6.out k7)
    have B7 := Lib.hid (below_step B6.out k7)
    clear k7 O6 T6 P6 S6 Q6 R6 B6 HV3 HLB3
    have G1 := Lib.hid (fun w hx => spec_GraphOk_any s A1 c1 es w hx (by omega) HL.out)
    have G2 := Lib.hid (fun w hx => impl_GraphOk_any s A1 c1 es w hx (by omega) HL.out)
    rw [HR.out] at G1 G2
    have G3 := Lib.hid (fun w hx hy => sameGraph_any s2 A2 c2 es2 s A1 c1 es w hx hy (by omega))
    have hcase : (r = false) ∨ (r = true ∧ b2 = true ∧ PP (s2 = s ∧ es2 = es) = true) := by
      cases r
      · exact .inl rfl
      · refine .inr ⟨rfl, ?_⟩
        have hg : GOk s es := by
          by_cases h : GOk s es
          · exact h
          · have := HR.out; rw [PP_no h] at this; cases this
        have h1 := HRT.out hg
        have h2 := OS2.out
        have h3 := OE2.out
        have h4 := OB2.out
        rw [h1] at h2 h3 h4
        exact ⟨h4.symm, PP_yes ⟨h2.symm, h3.symm⟩⟩
    have hcase3 : b3 = false ∨ (b3 = true ∧ u3 = t2) := by
      cases b3
      · exact .inl rfl
      · exact .inr ⟨rfl, HU3.out rfl⟩
    clear OS2 OE2 OB2 HU3 HRT HR
    have b0 := blk_cell (o := 0) Q7.out rfl
    have b1 := blk_cell (o := 1) Q7.out rfl
    go_wp2_with fail
    refine (G1.out w7 R7.out).mono ?_
    rintro e w8 ⟨rfl, k8⟩
    have P8 := Lib.hid (blk_below k8 P7.out)
    have S8 := Lib.hid (Rd.below S7.out k8)
    have Q8 := Lib.hid (blk_below k8 Q7.out)
    have R8 := Lib.hid (Rd.below R7.out k8)
    have B8 := Lib.hid (below_step B7.out k8)
    clear k8 P7 S7 Q7 R7 B7 b0 b1
    have b0 := blk_cell (o := 0) Q8.out rfl
    have b1 := blk_cell (o := 1) Q8.out rfl
    have hrr : (r == r) = true := by simp
    go_wp2_with fail
    refine (G2.out w8 R8.out).mono ?_
    rintro e w9 ⟨rfl, k9⟩
    have P9 := Lib.hid (blk_below k9 P8.out)
    have S9 := Lib.hid (Rd.below S8.out k9)
    have Q9 := Lib.hid (blk_below k9 Q8.out)
    have R9 := Lib.hid (Rd.below R8.out k9)
    have B9 := Lib.hid (below_step B8.out k9)
    clear k9 P8 S8 Q8 R8 B8 b0 b1
    rcases hcase with rfl | ⟨rfl, rfl, hpp⟩
    rotate_left 1
    · have b0 := blk_cell (o := 0) Q9.out rfl
      have b1 := blk_cell (o := 1) Q9.out rfl
      have d0 := blk_cell (o := 0) P9.out rfl
      have d1 := blk_cell (o := 1) P9.out rfl
      rw [hpp] at G3
      clear hpp
      go_wp2_with fail
      refine (G3.out w9 S9.out R9.out).mono ?_
      rintro e w10 ⟨rfl, k10⟩
      have hb10 := below_step B9.out k10
      clear k10 b0 b1 d0 d1
      rcases hcase3 with rfl | ⟨rfl, rfl⟩
      all_goals
        go_wp2
        go_ret
        exact ⟨rfl, hb10⟩
    · have hb10 := B9.out
      rcases hcase3 with rfl | ⟨rfl, rfl⟩
      all_goals
        go_wp2
        go_ret
        exact ⟨rfl, hb10⟩
end Go.Proofs.Ytnhanakeijplcaa
