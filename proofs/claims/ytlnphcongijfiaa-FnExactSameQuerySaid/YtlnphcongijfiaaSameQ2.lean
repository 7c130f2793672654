/- SameQuery: the program's function and the reference's. No conditions but the lengths. Printed by xsameq2.py. -/
import Derived.Test.YtlnphcongijfiaaSameQ
namespace Go.Proofs.Ytlnphcongijfiaa
open Go.RowKit

/-- All parts are the same. -/
structure sqP (ea eb : Bool) (os os' : List ByteArray) (as_ as' : List At) (fs fs' : List Fl) : Prop where
  e : ea = eb
  o : os = os'
  a : as_ = as'
  f : fs = fs'
theorem two_q (w : World) (o1 o2 : Obj) : ∃ W, (w.alloc o1).alloc o2 = W ∧ W.heap[w.heap.size]? = some o1 ∧ W.heap[w.heap.size + 1]? = some o2 ∧ Below w.heap.size w W := by
  refine ⟨_, rfl, blk_below (below_alloc _ _) (heap_alloc_new w o1), ?_, below_step (below_alloc _ _) (below_alloc _ _)⟩
  have := heap_alloc_new (w.alloc o1) o2
  simpa using this

set_option maxRecDepth 100000 in
set_option maxHeartbeats 3200000 in
theorem impl_SameQuery_any (ea eb : Bool) (A B C A' B' C' : Option Addr) (c d f c' d' f' : Nat) (os os' : List ByteArray) (as_ as' : List At) (fs fs' : List Fl) (w : World) (hx : RdQ w A B C os as_ fs) (hy : RdQ w A' B' C' os' as' fs')
    (hn : os.length ≤ 4294967296) (hm : as_.length ≤ 4294967296 ∧ as'.length ≤ 4294967296) (hf : fs.length ≤ 4294967296 ∧ fs'.length ≤ 4294967296) :
    Calls Try.prog 11 #[.agg #[.bool ea, .slice A os.length c, .slice B as_.length d, .slice C fs.length f], .agg #[.bool eb, .slice A' os'.length c', .slice B' as'.length d', .slice C' fs'.length f']] w fun e w' => e = .returned (.bool (PP (sqP ea eb os os' as_ as' fs fs'))) ∧ Below w.heap.size w w' := by
  obtain ⟨W, hW, p1, p2, bW⟩ := two_q w (.cells #[.bool ea, .slice A os.length c, .slice B as_.length d, .slice C fs.length f] 32) (.cells #[.bool eb, .slice A' os'.length c', .slice B' as'.length d', .slice C' fs'.length f'] 32)
  have HX := Lib.hid hx
  have HY := Lib.hid hy
  have C1 := Lib.hid (fun w h1 h2 => EqualS_any A A' os.length os'.length c c' os os' w h1 h2 hn)
  have P1 := Lib.hid p1
  have P2 := Lib.hid p2
  have BW := Lib.hid bW
  rw [show eqLT os os' = PP (os = os') by by_cases h : os = os' <;> simp [eqLT, PP, h]] at C1
  obtain ⟨R, hR⟩ : ∃ R, PP (sqP ea eb os os' as_ as' fs fs') = R := ⟨_, rfl⟩
  have HR := Lib.hid hR
  rw [hR]
  clear hx hy p1 p2 bW hR
  have C2 := Lib.hid (fun w h1 h2 => EqualA_any B B' d d' as_ as' w h1 h2 hm.1 hm.2)
  have C3 := Lib.hid (fun w h1 h2 => EqualF_any C C' f f' fs fs' w h1 h2 hf.1 hf.2)
  have a0 := blk_cell (o := 0) P1.out rfl
  have a1 := blk_cell (o := 1) P1.out rfl
  have b0 := blk_cell (o := 0) P2.out rfl
  have b1 := blk_cell (o := 1) P2.out rfl
  by_cases h0 : ea = eb
  rotate_left
  · have HN := Lib.hid (show R = false by rw [← HR.out]; exact PP_no fun h => h0 h.e)
    have q0 : (ea == eb) = false := by simpa using h0
    clear h0
    go_enter Try.func11, Try.ntmps11
    go_wp2
    go_ret
    exact ⟨ret_bQ HN.out.symm, BW.out⟩
  subst h0
  have q0 : (ea == ea) = true := by simp
  go_enter Try.func11, Try.ntmps11
  go_wp2_with fail
  clear hW a0 a1 b0 b1
  have D1 := Lib.hid (C1.out _ (HX.out.below BW.out).o (HY.out.below BW.out).o)
  by_cases h1 : os = os'
  rotate_left
  · have HN := Lib.hid (show R = false by rw [← HR.out]; exact PP_no fun h => h1 h.o)
    rw [PP_no h1] at D1
    clear h1
    refine D1.out.mono ?_
    rintro e wz ⟨rfl, kz⟩
    go_wp2
    go_ret
    exact ⟨ret_bQ HN.out.symm, below_step BW.out kz⟩
  rw [PP_yes h1] at D1
  have H1 := Lib.hid h1
  clear h1
  refine D1.out.mono ?_
  rintro e w1 ⟨rfl, k1⟩
  have Q1 := Lib.hid (blk_below k1 P1.out)
  have S1 := Lib.hid (blk_below k1 P2.out)
  have B1 := Lib.hid (below_step BW.out k1)
  clear k1 D1 
  have a := blk_cell (o := 2) Q1.out rfl
  have b := blk_cell (o := 2) S1.out rfl
  have D2 := Lib.hid (C2.out _ (HX.out.below B1.out).a (HY.out.below B1.out).a)
  by_cases h2 : as_ = as'
  rotate_left
  · have HN := Lib.hid (show R = false by rw [← HR.out]; exact PP_no fun h => h2 h.a)
    rw [PP_no h2] at D2
    clear h2
    go_wp2_with fail
    refine D2.out.mono ?_
    rintro e wz ⟨rfl, kz⟩
    go_wp2
    go_ret
    exact ⟨ret_bQ HN.out.symm, below_step B1.out kz⟩
  rw [PP_yes h2] at D2
  have H2 := Lib.hid h2
  clear h2
  go_wp2_with fail
  refine D2.out.mono ?_
  rintro e w2 ⟨rfl, k2⟩
  have Q2 := Lib.hid (blk_below k2 Q1.out)
  have S2 := Lib.hid (blk_below k2 S1.out)
  have B2 := Lib.hid (below_step B1.out k2)
  clear k2 D2 a b
  have a := blk_cell (o := 3) Q2.out rfl
  have b := blk_cell (o := 3) S2.out rfl
  have D3 := Lib.hid (C3.out _ (HX.out.below B2.out).f (HY.out.below B2.out).f)
  by_cases h3 : fs = fs'
  rotate_left
  · have HN := Lib.hid (show R = false by rw [← HR.out]; exact PP_no fun h => h3 h.f)
    rw [PP_no h3] at D3
    clear h3
    go_wp2_with fail
    refine D3.out.mono ?_
    rintro e wz ⟨rfl, kz⟩
    go_wp2
    go_ret
    exact ⟨ret_bQ HN.out.symm, below_step B2.out kz⟩
  rw [PP_yes h3] at D3
  have H3 := Lib.hid h3
  clear h3
  go_wp2_with fail
  refine D3.out.mono ?_
  rintro e w3 ⟨rfl, k3⟩
  have Q3 := Lib.hid (blk_below k3 Q2.out)
  have S3 := Lib.hid (blk_below k3 S2.out)
  have B3 := Lib.hid (below_step B2.out k3)
  clear k3 D3 a b
  have HN := Lib.hid (show R = true by rw [← HR.out]; exact PP_yes ⟨by first | rfl | trivial, H1.out, H2.out, H3.out⟩)
  go_wp2
  go_ret
  exact ⟨ret_bQ HN.out.symm, B3.out⟩

set_option maxRecDepth 100000 in
set_option maxHeartbeats 6400000 in
theorem spec_SameQuery_any (ea eb : Bool) (A B C A' B' C' : Option Addr) (c d f c' d' f' : Nat) (os os' : List ByteArray) (as_ as' : List At) (fs fs' : List Fl) (w : World) (hx : RdQ w A B C os as_ fs) (hy : RdQ w A' B' C' os' as' fs')
    (hn : os.length ≤ 4294967296) (hm : as_.length ≤ 4294967296 ∧ as'.length ≤ 4294967296) (hf : fs.length ≤ 4294967296 ∧ fs'.length ≤ 4294967296) :
    Calls Try.prog 9 #[.agg #[.bool ea, .slice A os.length c, .slice B as_.length d, .slice C fs.length f], .agg #[.bool eb, .slice A' os'.length c', .slice B' as'.length d', .slice C' fs'.length f']] w fun e w' => e = .returned (.bool (PP (sqP ea eb os os' as_ as' fs fs'))) ∧ Below w.heap.size w w' := by
  obtain ⟨W, hW, p1, p2, bW⟩ := two_q w (.cells #[.bool ea, .slice A os.length c, .slice B as_.length d, .slice C fs.length f] 32) (.cells #[.bool eb, .slice A' os'.length c', .slice B' as'.length d', .slice C' fs'.length f'] 32)
  have HX := Lib.hid hx
  have HY := Lib.hid hy
  have C1 := Lib.hid (fun w h1 h2 => l08Texts_any A A' os.length os'.length c c' os os' w h1 h2 hn)
  have P1 := Lib.hid p1
  have P2 := Lib.hid p2
  have BW := Lib.hid bW
  rw [show eqLT os os' = PP (os = os') by by_cases h : os = os' <;> simp [eqLT, PP, h]] at C1
  obtain ⟨R, hR⟩ : ∃ R, PP (sqP ea eb os os' as_ as' fs fs') = R := ⟨_, rfl⟩
  have HR := Lib.hid hR
  rw [hR]
  clear hx hy p1 p2 bW hR
  have a0 := blk_cell (o := 0) P1.out rfl
  have a1 := blk_cell (o := 1) P1.out rfl
  have b0 := blk_cell (o := 0) P2.out rfl
  have b1 := blk_cell (o := 1) P2.out rfl
  by_cases h0 : ea = eb
  rotate_left
  · have HN := Lib.hid (show R = false by rw [← HR.out]; exact PP_no fun h => h0 h.e)
    have q0 : (ea == eb) = false := by simpa using h0
    clear h0
    go_enter Try.func9, Try.ntmps9
    go_wp2
    go_ret
    exact ⟨ret_bQ HN.out.symm, BW.out⟩
  subst h0
  have q0 : (ea == ea) = true := by simp
  go_enter Try.func9, Try.ntmps9
  go_wp2_with fail
  clear hW a0 a1 b0 b1
  have D1 := Lib.hid (C1.out _ (HX.out.below BW.out).o (HY.out.below BW.out).o)
  by_cases h1 : os = os'
  rotate_left
  · have HN := Lib.hid (show R = false by rw [← HR.out]; exact PP_no fun h => h1 h.o)
    rw [PP_no h1] at D1
    clear h1
    refine D1.out.mono ?_
    rintro e wz ⟨rfl, kz⟩
    go_wp2
    go_ret
    exact ⟨ret_bQ HN.out.symm, below_step BW.out kz⟩
  rw [PP_yes h1] at D1
  have H1 := Lib.hid h1
  clear h1
  refine D1.out.mono ?_
  rintro e w1 ⟨rfl, k1⟩
  have Q1 := Lib.hid (blk_below k1 P1.out)
  have S1 := Lib.hid (blk_below k1 P2.out)
  have B1 := Lib.hid (below_step BW.out k1)
  clear k1 D1
  have a2 := blk_cell (o := 2) Q1.out rfl
  have a3 := blk_cell (o := 3) Q1.out rfl
  have b2 := blk_cell (o := 2) S1.out rfl
  have b3 := blk_cell (o := 3) S1.out rfl
  by_cases ha : as_.length = as'.length
  rotate_left
  · have HN := Lib.hid (show R = false by rw [← HR.out]; exact PP_no fun h => ha (by rw [h.a]))
    have g1 : ((as_.length : Int) != (as'.length : Int)) = true := by rw [bne_iff_ne]; omega
    clear ha
    go_wp2
    go_ret
    exact ⟨ret_bQ HN.out.symm, B1.out⟩
  have g1 : ((as_.length : Int) != (as'.length : Int)) = false := by rw [bne_eq_false_iff_eq]; omega
  have la1 : as_.length ≤ as'.length := by omega
  have la2 : as'.length ≤ as_.length := by omega
  clear ha
  by_cases hfl : fs.length = fs'.length
  rotate_left
  · have HN := Lib.hid (show R = false by rw [← HR.out]; exact PP_no fun h => hfl (by rw [h.f]))
    have g2 : ((fs.length : Int) != (fs'.length : Int)) = true := by rw [bne_iff_ne]; omega
    clear hfl
    go_wp2
    go_ret
    exact ⟨ret_bQ HN.out.symm, B1.out⟩
  have g2 : ((fs.length : Int) != (fs'.length : Int)) = false := by rw [bne_eq_false_iff_eq]; omega
  have lf1 : fs.length ≤ fs'.length := by omega
  have lf2 : fs'.length ≤ fs.length := by omega
  clear hfl
  go_wp2_with fail
  clear g1 g2 a2 a3 b2 b3
  have eg := Try.eqGuardType86
  go_loopw [5] (fun i wr => ∃ k : Nat, k ≤ as_.length ∧ i = .int .i64 k ∧ Hid (as_.take k = as'.take k) ∧ wr.heap[w.heap.size]? = some (.cells #[.bool ea, .slice A os.length c, .slice B as_.length d, .slice C fs.length f] 32 (0, 0)) ∧ wr.heap[w.heap.size + 1]? = some (.cells #[.bool ea, .slice A' os'.length c', .slice B' as'.length d', .slice C' fs'.length f'] 32 (0, 0)) ∧ Below w.heap.size w wr) (fun i _ => as_.length - (intOf i).toNat)
  case atStart => exact ⟨0, Nat.zero_le _, rfl, by show _ = _; simp, Q1.out, S1.out, B1.out⟩
  case round =>
    obtain ⟨k, hk, rfl, HE, q1, q2, hb⟩ := hrel
    by_cases hlt : k < as_.length
    · have hlt2 : k < as'.length := by omega
      obtain ⟨b, o, hE1, c0, c1, c2⟩ := (HX.out.below hb).a.at_ hlt
      obtain ⟨b', o', hE2, c0', c1', c2'⟩ := (HY.out.below hb).a.at_ hlt2
      have z1 := blk_cell (o := 2) q1 rfl
      have z2 := blk_cell (o := 2) q2 rfl
      have Z1 := Lib.hid q1
      have Z2 := Lib.hid q2
      subst hE1 hE2
      obtain ⟨x, hxx⟩ : ∃ x, as_[k] = x := ⟨_, rfl⟩
      obtain ⟨y, hyy⟩ : ∃ y, as'[k] = y := ⟨_, rfl⟩
      rw [hxx] at c0 c1 c2
      rw [hyy] at c0' c1' c2'
      have EX := Lib.hid hxx
      have EY := Lib.hid hyy
      clear hxx hyy q1 q2
      have k0 : (0 : Int) ≤ (k : Int) := by omega
      have k1 : (k : Int) < (as_.length : Int) := by omega
      have k2 : (k : Int) < (as'.length : Int) := by omega
      have hcmp := Atom_cmp x y
      obtain ⟨r, hr⟩ : ∃ r, PP (x = y) = r := ⟨_, rfl⟩
      rw [hr] at hcmp
      have HRR := Lib.hid hr
      have HB := Lib.hid hb
      obtain ⟨xf, xp, xt⟩ := x
      obtain ⟨yf, yp, yt⟩ := y
      unfold At.val at hcmp
      simp only at c0 c1 c2 c0' c1' c2' hcmp
      clear hr hb
      cases r
      · go_wp2_with fail
        go_quiet (fail)
        clear hcmp
        go_wp2
        go_ret
        have HN : R = false := by
          rw [← HR.out]
          refine PP_no fun h => ?_
          have h1 : as_[k] = as'[k] := by have := h.a; subst this; rfl
          rw [EX.out, EY.out] at h1
          exact PP_not HRR.out h1
        exact ⟨ret_bQ HN.symm, below_drewN HB.out _⟩
      · go_wp2_with fail
        go_quiet (fail)
        clear hcmp
        go_wp2
        go_roundw
        case rel =>
          refine ⟨k + 1, by omega, by go_num, ?_, Z1.out, Z2.out, below_drewN HB.out _⟩
          show _ = _
          rw [List.take_succ_eq_append_getElem hlt, List.take_succ_eq_append_getElem hlt2, HE.out, EX.out, EY.out, PP_of HRR.out]
        case measure => simp [intOf]; omega
    · obtain rfl : k = as_.length := by omega
      have h2 := HE.out
      rw [List.take_of_length_le (Nat.le_refl _), List.take_of_length_le la2] at h2
      have z1 := blk_cell (o := 2) q1 rfl
      have HA := Lib.hid h2
      have QA := Lib.hid q1
      have SA := Lib.hid q2
      have BA := Lib.hid hb
      clear h2 q1 q2 hb HE
      go_wp2_with fail
      clear z1
      have eg := Try.eqGuardType88
      go_loopw [6] (fun i wr => ∃ k : Nat, k ≤ fs.length ∧ i = .int .i64 k ∧ Hid (fs.take k = fs'.take k) ∧ wr.heap[w.heap.size]? = some (.cells #[.bool ea, .slice A os.length c, .slice B as_.length d, .slice C fs.length f] 32 (0, 0)) ∧ wr.heap[w.heap.size + 1]? = some (.cells #[.bool ea, .slice A' os'.length c', .slice B' as'.length d', .slice C' fs'.length f'] 32 (0, 0)) ∧ Below w.heap.size w wr) (fun i _ => fs.length - (intOf i).toNat)
      case atStart => exact ⟨0, Nat.zero_le _, rfl, by show _ = _; simp, QA.out, SA.out, BA.out⟩
      case round =>
        obtain ⟨k, hk, rfl, HE, q1, q2, hb⟩ := hrel
        by_cases hlt : k < fs.length
        · have hlt2 : k < fs'.length := by omega
          obtain ⟨b, o, hE1, c0, c1, c2, c3⟩ := (HX.out.below hb).f.at_ hlt
          obtain ⟨b', o', hE2, c0', c1', c2', c3'⟩ := (HY.out.below hb).f.at_ hlt2
          have z1 := blk_cell (o := 3) q1 rfl
          have z2 := blk_cell (o := 3) q2 rfl
          have Z1 := Lib.hid q1
          have Z2 := Lib.hid q2
          subst hE1 hE2
          obtain ⟨x, hxx⟩ : ∃ x, fs[k] = x := ⟨_, rfl⟩
          obtain ⟨y, hyy⟩ : ∃ y, fs'[k] = y := ⟨_, rfl⟩
          rw [hxx] at c0 c1 c2 c3
          rw [hyy] at c0' c1' c2' c3'
          have EX := Lib.hid hxx
          have EY := Lib.hid hyy
          clear hxx hyy q1 q2
          have k0 : (0 : Int) ≤ (k : Int) := by omega
          have k1 : (k : Int) < (fs.length : Int) := by omega
          have k2 : (k : Int) < (fs'.length : Int) := by omega
          have hcmp := Filter_cmp x y
          obtain ⟨r, hr⟩ : ∃ r, PP (x = y) = r := ⟨_, rfl⟩
          rw [hr] at hcmp
          have HRR := Lib.hid hr
          have HB := Lib.hid hb
          obtain ⟨xl, xo, xr, xn⟩ := x
          obtain ⟨yl, yo, yr, yn⟩ := y
          unfold Fl.val at hcmp
          simp only at c0 c1 c2 c3 c0' c1' c2' c3' hcmp
          clear hr hb
          cases r
          · go_wp2_with fail
            go_quiet (fail)
            clear hcmp
            go_wp2
            go_ret
            have HN : R = false := by
              rw [← HR.out]
              refine PP_no fun h => ?_
              have h1 : fs[k] = fs'[k] := by have := h.f; subst this; rfl
              rw [EX.out, EY.out] at h1
              exact PP_not HRR.out h1
            exact ⟨ret_bQ HN.symm, below_drewN HB.out _⟩
          · go_wp2_with fail
            go_quiet (fail)
            clear hcmp
            go_wp2
            go_roundw
            case rel =>
              refine ⟨k + 1, by omega, by go_num, ?_, Z1.out, Z2.out, below_drewN HB.out _⟩
              show _ = _
              rw [List.take_succ_eq_append_getElem hlt, List.take_succ_eq_append_getElem hlt2, HE.out, EX.out, EY.out, PP_of HRR.out]
            case measure => simp [intOf]; omega
        · obtain rfl : k = fs.length := by omega
          have h2 := HE.out
          rw [List.take_of_length_le (Nat.le_refl _), List.take_of_length_le lf2] at h2
          have z1 := blk_cell (o := 3) q1 rfl
          have HF := Lib.hid h2
          have QF := Lib.hid q1
          have SF := Lib.hid q2
          have BF := Lib.hid hb
          clear h2 q1 q2 hb HE
          have HN := Lib.hid (show R = true by rw [← HR.out]; exact PP_yes ⟨by first | rfl | trivial, H1.out, HA.out, HF.out⟩)
          go_wp2
          go_ret
          exact ⟨ret_bQ HN.out.symm, BF.out⟩
end Go.Proofs.Ytlnphcongijfiaa
