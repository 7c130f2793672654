/- Paths: copied, compared, sized; opened. No conditions but the lengths. -/
import Derived.Test.YtjlekcoikceidaaPcs
import Derived.Test.YtjlekcoikceidaaBelowQ
import Derived.Test.YtjlekcoikceidaaGraphOk
import Derived.Test.YtjlekcoikceidaaMOpen
namespace Go.Proofs.Ytjlekcoikceidaa
open Go.ChangeShapes Go.WideShapes Go.ChangeAt Go.RowKit Go.Joins Go.Deep
set_option maxRecDepth 100000 in

set_option maxHeartbeats 1600000 in
theorem toPath_any (A : Option Addr) (c : Nat) (ps : List Pc) (w : World) (hx : RdP w A ps) (hn : ps.length ≤ 4294967296) (hk : ∀ p ∈ ps, p.k.length ≤ 4294967296) :
    Calls Try.prog 6 #[.agg #[.slice A ps.length c]] w (MadePath w ps) := by
  have HX := Lib.hid hx
  have HK := Lib.hid hk
  clear hx hk
  go_enter Try.func6, Try.ntmps6
  go_wp2_with fail
  refine (toPieceS_any A c ps _ (((HX.out.alloc _).alloc _).alloc _) hn HK.out).mono ?_
  rintro e w1 ⟨A1, c1, rfl, hown, hb⟩
  have HB := Lib.hid hb
  obtain ⟨hcl, hfr⟩ := bcell hb
  have hz : w.heap.size + 3 ≤ w1.heap.size := by have := hb.size; simp at this; omega
  have h1 : w1.cell? ⟨w.heap.size + 2, 0, none⟩ = some (.slice none 0 0) := by rw [hcl _ _ (by simp)]; go_simp
  have h2 : w1.cell? ⟨w.heap.size + 1, 0, none⟩ = some (.slice none 0 0) := by rw [hcl _ _ (by simp)]; go_simp
  have g2 : w1.frozen? ⟨w.heap.size + 2, 0, none⟩ = false := by rw [hfr _ _ (by simp)]; go_simp
  have g3 : w1.frozen? ⟨w.heap.size + 1, 0, none⟩ = false := by rw [hfr _ _ (by simp)]; go_simp
  have HO := Lib.hid hown
  clear hown hb hcl hfr
  go_wp2
  refine bodyPost_ret (v := .agg #[.slice A1 ps.length c1]) (by simp [results, Try.results6, go_sem, h2]) rfl ⟨A1, c1, rfl, ?_, ?_⟩
  · obtain ⟨xs, e1, h⟩ := HO.out
    refine ⟨xs, e1, own_mono (ownsRow_setCell_below (ownsRow_setCell_below h.row (by simp) _) (by simp) _) (by simp; omega), fun x hx => own_mono (ownsRow_setCell_below (ownsRow_setCell_below (h.kids x hx) (by simp) _) (by simp) _) (by simp; omega), h.apart⟩
  · have hb3 : Below w.heap.size w w1 := below_step ((((Below.refl w.heap.size w).alloc (Nat.le_refl _) _).alloc (by simp) _).alloc (by simp; omega) _) HB.out
    exact (hb3.setCell (by simp; omega) _).setCell (by simp) _

/-- How many kids there are. -/
def sumK (ps : List Pc) : Nat := (ps.map fun p => p.k.length).sum
theorem sumK_next {ps : List Pc} {k : Nat} (h : k < ps.length) : sumK (ps.take (k + 1)) = sumK (ps.take k) + ps[k].k.length := by
  unfold sumK
  rw [List.take_succ_eq_append_getElem h, List.map_append, List.sum_append]
  simp
theorem sumK_le (ps : List Pc) (k : Nat) : sumK (ps.take k) ≤ sumK ps := by
  have h : sumK ps = sumK (ps.take k) + sumK (ps.drop k) := by
    unfold sumK
    rw [← List.sum_append, ← List.map_append, List.take_append_drop]
  omega
theorem sumK_mem {ps : List Pc} {p : Pc} (h : p ∈ ps) : p.k.length ≤ sumK ps := by
  obtain ⟨i, hi, rfl⟩ := List.getElem_of_mem h
  have h1 := sumK_next hi
  have h2 := sumK_le ps (i + 1)
  omega
def szP (ps : List Pc) (left : Int) : Int := if (ps.length : Int) + sumK ps ≤ left then left - ps.length - sumK ps else -1
theorem szP_yes {ps : List Pc} {left : Int} (h : (ps.length : Int) + sumK ps ≤ left) : szP ps left = left - ps.length - sumK ps := if_pos h
theorem szP_no {ps : List Pc} {left : Int} (h : ¬ (ps.length : Int) + sumK ps ≤ left) : szP ps left = -1 := if_neg h

set_option maxRecDepth 100000 in
theorem szIntS_any (A : Option Addr) (n c : Nat) (left : Int) (w : World) (hl : 0 ≤ left ∧ left ≤ 4611686018427387904) (hn : n ≤ 9223372036854775807) :
    Calls Try.prog 47 #[.slice A n c, .int .i64 left] w fun e w' => e = .returned (.int .i64 (if (n : Int) ≤ left then left - n else -1)) ∧ w = w' := by
  obtain ⟨h0, h1⟩ := hl
  by_cases h : (n : Int) ≤ left
  · rw [if_pos h]
    go_enter Try.func47, Try.ntmps47
    go_wp2
    go_ret
    exact ⟨rfl, rfl⟩
  · rw [if_neg h]
    go_enter Try.func47, Try.ntmps47
    go_wp2
    go_ret
    exact ⟨rfl, rfl⟩
set_option maxRecDepth 100000 in
theorem szPiece_any (op l : Int) (A : Option Addr) (n c : Nat) (left : Int) (w : World) (hl : 0 ≤ left ∧ left ≤ 4611686018427387904) (hn : n ≤ 9223372036854775807) :
    Calls Try.prog 34 #[.agg #[.int .i64 op, .int .u8 l, .slice A n c], .int .i64 left] w fun e w' => e = .returned (.int .i64 (if (n : Int) ≤ left then left - n else -1)) ∧ Below w.heap.size w w' := by
  have C := Lib.hid (fun w => szIntS_any A n c left w hl hn)
  obtain ⟨h0, h1⟩ := hl
  by_cases h : (n : Int) ≤ left
  · rw [if_pos h] at C ⊢
    go_enter Try.func34, Try.ntmps34
    go_wp2_with (go_at_call 47; refine (C.out _).mono ?_; rintro e w1 ⟨rfl, rfl⟩)
    go_ret
    exact ⟨rfl, below_alloc _ _⟩
  · rw [if_neg h] at C ⊢
    go_enter Try.func34, Try.ntmps34
    go_wp2_with (go_at_call 47; refine (C.out _).mono ?_; rintro e w1 ⟨rfl, rfl⟩)
    go_ret
    exact ⟨rfl, below_alloc _ _⟩
set_option maxRecDepth 100000 in
set_option maxHeartbeats 1600000 in
theorem szPieceS_any (A : Option Addr) (c : Nat) (ps : List Pc) (left : Int) (w : World) (hx : RdP w A ps) (hl : 0 ≤ left ∧ left ≤ 4611686018427387904) (hn : ps.length ≤ 9223372036854775807) (hk : ∀ p ∈ ps, p.k.length ≤ 9223372036854775807) :
    Calls Try.prog 13 #[.slice A ps.length c, .int .i64 left] w fun e w' => e = .returned (.int .i64 (szP ps left)) ∧ Below w.heap.size w w' := by
  have HX := Lib.hid hx
  have HK := Lib.hid hk
  clear hx hk
  obtain ⟨h0, h1⟩ := hl
  by_cases h : (ps.length : Int) ≤ left
  · go_enter Try.func13, Try.ntmps13
    go_wp2
    go_loopw [1, 5] (fun v i wr => ∃ k z : Nat, k ≤ ps.length ∧ i = .int .i64 k ∧ v = .int .i64 (left - ps.length - z) ∧ Hid (z = sumK (ps.take k)) ∧ (ps.length : Int) + z ≤ left ∧ Below w.heap.size w wr) (fun _ i _ => ps.length - (intOf i).toNat)
    case atStart => exact ⟨0, 0, Nat.zero_le _, rfl, by simp, Lib.hid rfl, by omega, Below.refl _ _⟩
    case round =>
      obtain ⟨k, z, hk, rfl, rfl, HZ, hzl, hb⟩ := hrel
      by_cases hlt : k < ps.length
      · obtain ⟨b, o, Kk, ck, rfl, c0, c1, c2, hrk⟩ := (RdP.keep HX.out hb).at_ hlt
        have hkl := HK.out ps[k] (List.getElem_mem hlt)
        have hsn := sumK_next hlt
        have hsl := sumK_le ps (k + 1)
        obtain ⟨pk, hpk⟩ : ∃ pk, ps[k] = pk := ⟨_, rfl⟩
        rw [hpk] at c0 c1 c2 hkl hsn
        rw [← HZ.out] at hsn
        clear hrk hpk
        obtain ⟨L, hL⟩ : ∃ L : Int, left - ps.length - z = L := ⟨_, rfl⟩
        have hL0 : 0 ≤ L := by omega
        have hL1 : L ≤ 4611686018427387904 := by omega
        have T := Lib.hid (fun w => szPiece_any pk.op pk.l Kk pk.k.length ck L w ⟨hL0, hL1⟩ hkl)
        have k0 : (0 : Int) ≤ (k : Int) := by omega
        have k1 : (k : Int) < (ps.length : Int) := by omega
        have HSN := Lib.hid hsn
        have HLL := Lib.hid hL
        rw [hL]
        clear hsn hL
        by_cases hfit : (pk.k.length : Int) ≤ L
        · rw [if_pos hfit] at T
          go_wp2_with fail
          refine (T.out _).mono ?_
          rintro e w1 ⟨rfl, hb1⟩
          go_wp2
          go_roundw
          case rel =>
            have e1 := HSN.out
            have e2 := HLL.out
            exact ⟨k + 1, sumK (ps.take (k + 1)), by omega, by go_num, by rw [e1, ← e2]; congr 1; push_cast; omega, Lib.hid rfl, by omega, below_step hb hb1⟩
          case measure => simp [intOf]; omega
        · rw [if_neg hfit] at T
          go_wp2_with fail
          refine (T.out _).mono ?_
          rintro e w1 ⟨rfl, hb1⟩
          go_wp2
          go_ret
          refine ⟨?_, below_step hb hb1⟩
          have e1 := HSN.out
          have e2 := HLL.out
          rw [szP_no (by omega)]
          rfl
      · obtain rfl : k = ps.length := by omega
        have hz := HZ.out
        rw [List.take_of_length_le (Nat.le_refl _)] at hz
        subst hz
        go_wp2
        go_ret
        exact ⟨by rw [szP_yes hzl]; rfl, hb⟩
  · rw [szP_no (by omega)]
    go_enter Try.func13, Try.ntmps13
    go_wp2
    go_ret
    exact ⟨rfl, Below.refl _ _⟩
set_option maxRecDepth 100000 in
theorem szPath_any (A : Option Addr) (c : Nat) (ps : List Pc) (left : Int) (w : World) (hx : RdP w A ps) (hl : 0 ≤ left ∧ left ≤ 4611686018427387904) (hn : ps.length ≤ 9223372036854775807) (hk : ∀ p ∈ ps, p.k.length ≤ 9223372036854775807) :
    Calls Try.prog 4 #[.agg #[.slice A ps.length c], .int .i64 left] w fun e w' => e = .returned (.int .i64 (szP ps left)) ∧ Below w.heap.size w w' := by
  have C := Lib.hid (szPieceS_any A c ps left (w.alloc (.cells #[.slice A ps.length c] 24)) (hx.alloc _) hl hn hk)
  clear hx hk
  obtain ⟨h0, h1⟩ := hl
  by_cases h : (ps.length : Int) + sumK ps ≤ left
  · rw [szP_yes h] at C ⊢
    obtain ⟨L, hL⟩ : ∃ L : Int, left - ps.length - sumK ps = L := ⟨_, rfl⟩
    have hL0 : 0 ≤ L := by omega
    rw [hL] at C ⊢
    clear hL h
    go_enter Try.func4, Try.ntmps4
    go_wp2_with fail
    refine C.out.mono ?_
    rintro e w1 ⟨rfl, hb1⟩
    go_wp2
    go_ret
    exact ⟨rfl, below_step (below_alloc _ _) hb1⟩
  · rw [szP_no h] at C ⊢
    go_enter Try.func4, Try.ntmps4
    go_wp2_with fail
    refine C.out.mono ?_
    rintro e w1 ⟨rfl, hb1⟩
    go_wp2
    go_ret
    exact ⟨rfl, below_step (below_alloc _ _) hb1⟩

theorem pc_ext {p q : Pc} (h1 : p.op = q.op) (h2 : p.l = q.l) (h3 : p.k = q.k) : p = q := by
  cases p; cases q; simp_all
set_option maxRecDepth 100000 in
set_option maxHeartbeats 1600000 in
theorem eqPiece_any (p q : Pc) (A B : Option Addr) (c d : Nat) (w : World) (hx : RdI w A p.k.length p.k) (hy : RdI w B q.k.length q.k) (hn : p.k.length ≤ 4294967296) :
    Calls Try.prog 45 #[.agg #[.int .i64 p.op, .int .u8 p.l, .slice A p.k.length c], .agg #[.int .i64 q.op, .int .u8 q.l, .slice B q.k.length d]] w fun e w' => e = .returned (.bool (PP (p = q))) ∧ Below w.heap.size w w' := by
  have k0 := below_step (below_alloc w (.cells #[.int .i64 p.op, .int .u8 p.l, .slice A p.k.length c] 78)) (below_alloc (w.alloc (.cells #[.int .i64 p.op, .int .u8 p.l, .slice A p.k.length c] 78)) (.cells #[.int .i64 q.op, .int .u8 q.l, .slice B q.k.length d] 78))
  have C := Lib.hid (eqIntS_any A B p.k.length q.k.length c d p.k q.k _ (RdI.below hx k0) (RdI.below hy k0) hn)
  have K0 := Lib.hid k0
  clear hx hy k0
  by_cases h1 : p.op = q.op
  · by_cases h2 : p.l = q.l
    · have HPQ : Hid (PP (p = q) = eqL p.k q.k) := by
        show _ = _
        by_cases h3 : p.k = q.k
        · rw [eqL_yes h3, PP_yes (pc_ext h1 h2 h3)]
        · rw [eqL_no h3, PP_no (fun h => h3 (by rw [h]))]
      obtain ⟨r, hr⟩ : ∃ r, eqL p.k q.k = r := ⟨_, rfl⟩
      rw [hr] at C HPQ
      rw [HPQ.out]
      clear hr HPQ
      have n1 : (p.op != q.op) = false := by simp [h1]
      have n2 : (p.l != q.l) = false := by simp [h2]
      clear h1 h2
      cases r
      all_goals
        go_enter Try.func45, Try.ntmps45
        go_wp2_with fail
        refine C.out.mono ?_
        rintro e w1 ⟨rfl, hb1⟩
        go_wp2
        go_ret
        exact ⟨rfl, below_step K0.out hb1⟩
    · rw [PP_no (fun h => h2 (by rw [h]))]
      have n1 : (p.op != q.op) = false := by simp [h1]
      have n2 : (p.l != q.l) = true := by simpa using h2
      clear h1 h2
      go_enter Try.func45, Try.ntmps45
      go_wp2
      go_ret
      exact ⟨rfl, K0.out⟩
  · rw [PP_no (fun h => h1 (by rw [h]))]
    have n1 : (p.op != q.op) = true := by simpa using h1
    clear h1
    go_enter Try.func45, Try.ntmps45
    go_wp2
    go_ret
    exact ⟨rfl, K0.out⟩

set_option maxRecDepth 100000 in
set_option maxHeartbeats 3200000 in
theorem eqPieceS_any (A B : Option Addr) (c d : Nat) (ps qs : List Pc) (w : World) (hx : RdP w A ps) (hy : RdP w B qs) (hn : ps.length ≤ 4294967296) (hk : ∀ p ∈ ps, p.k.length ≤ 4294967296) :
    Calls Try.prog 28 #[.slice A ps.length c, .slice B qs.length d] w fun e w' => e = .returned (.bool (PP (ps = qs))) ∧ Below w.heap.size w w' := by
  have HX := Lib.hid hx
  have HY := Lib.hid hy
  have HK := Lib.hid hk
  clear hx hy hk
  by_cases hnm : ps.length = qs.length
  · have b1 : ((ps.length : Int) != (qs.length : Int)) = false := by rw [bne_eq_false_iff_eq]; omega
    have l1 : ps.length ≤ qs.length := by omega
    have l2 : qs.length ≤ ps.length := by omega
    clear hnm
    go_enter Try.func28, Try.ntmps28
    go_wp2
    go_loopw [5] (fun i wr => ∃ k : Nat, k ≤ ps.length ∧ i = .int .i64 k ∧ Hid (ps.take k = qs.take k) ∧ Below w.heap.size w wr) (fun i _ => ps.length - (intOf i).toNat)
    case atStart => exact ⟨0, Nat.zero_le _, rfl, by show _ = _; simp, Below.refl _ _⟩
    case round =>
      obtain ⟨k, hk, rfl, HE, hb⟩ := hrel
      by_cases hlt : k < ps.length
      · have hlt2 : k < qs.length := by omega
        obtain ⟨b, o, K1, d1, rfl, c0, c1, c2, r1⟩ := (RdP.keep HX.out hb).at_ hlt
        obtain ⟨b', o', K2, d2, rfl, c0', c1', c2', r2⟩ := (RdP.keep HY.out hb).at_ hlt2
        have hkl := HK.out ps[k] (List.getElem_mem hlt)
        obtain ⟨x, hxx⟩ : ∃ x, ps[k] = x := ⟨_, rfl⟩
        obtain ⟨y, hyy⟩ : ∃ y, qs[k] = y := ⟨_, rfl⟩
        rw [hxx] at c0 c1 c2 r1 hkl
        rw [hyy] at c0' c1' c2' r2
        have EX := Lib.hid hxx
        have EY := Lib.hid hyy
        clear hxx hyy
        have k0 : (0 : Int) ≤ (k : Int) := by omega
        have k1 : (k : Int) < (ps.length : Int) := by omega
        have k2 : (k : Int) < (qs.length : Int) := by omega
        have R1 := Lib.hid (fun p : BelowOf wr => RdI.below r1 p.h)
        have R2 := Lib.hid (fun p : BelowOf wr => RdI.below r2 p.h)
        have T := Lib.hid (fun w h1 h2 => eqPiece_any x y K1 K2 d1 d2 w h1 h2 hkl)
        obtain ⟨r, hr⟩ : ∃ r, PP (x = y) = r := ⟨_, rfl⟩
        rw [hr] at T
        have HR := Lib.hid hr
        have c0 := fun p => cellQ c0 p
        have c1 := fun p => cellQ c1 p
        have c2 := fun p => cellQ c2 p
        have c0' := fun p => cellQ c0' p
        have c1' := fun p => cellQ c1' p
        have c2' := fun p => cellQ c2' p
        clear hr r1 r2
        go_wp2_with fail
        refine wp_region_below (by kernel_rfl) (by kernel_rfl) ?_
        repeat (first
          | go_big_quiet_step ((go_at_call 45; exact Calls.below_of (T.out _ (R1.out _) (R2.out _))))
          | quiet_step ((go_at_call 45; exact Calls.below_of (T.out _ (R1.out _) (R2.out _)))))
        refine wpQuiet_nil ?_
        intro _ hw'
        obtain ⟨⟨w5, kk⟩, hw''⟩ := hw'
        subst hw''
        have hb5 := below_step hb kk
        clear c0 c1 c2 c0' c1' c2'
        cases r
        · go_wp2
          go_ret
          refine ⟨ret_b2 (PP_no fun h => ?_).symm, hb5⟩
          have h1 : ps[k] = qs[k] := by subst h; rfl
          rw [EX.out, EY.out] at h1
          have h2 := HR.out
          rw [PP_yes h1] at h2
          cases h2
        · go_wp2
          go_roundw
          case rel =>
            refine ⟨k + 1, by omega, by go_num, ?_, hb5⟩
            show _ = _
            have h2 : x = y := by
              have := HR.out
              unfold PP at this
              exact @of_decide_eq_true _ (Classical.propDecidable _) this
            rw [List.take_succ_eq_append_getElem hlt, List.take_succ_eq_append_getElem hlt2, HE.out, EX.out, EY.out, h2]
          case measure => simp [intOf]; omega
      · obtain rfl : k = ps.length := by omega
        go_wp2
        go_ret
        refine ⟨ret_b2 (PP_yes ?_).symm, hb⟩
        have := HE.out
        rw [List.take_of_length_le (Nat.le_refl _), List.take_of_length_le l2] at this
        exact this
  · have b1 : ((ps.length : Int) != (qs.length : Int)) = true := by rw [bne_iff_ne]; omega
    rw [PP_no (fun h => hnm (by rw [h]))]
    clear hnm
    go_enter Try.func28, Try.ntmps28
    go_wp2
    go_ret
    exact ⟨rfl, Below.refl _ _⟩

set_option maxRecDepth 100000 in
theorem eqPath_any (A B : Option Addr) (c d : Nat) (ps qs : List Pc) (w : World) (hx : RdP w A ps) (hy : RdP w B qs) (hn : ps.length ≤ 4294967296) (hk : ∀ p ∈ ps, p.k.length ≤ 4294967296) :
    Calls Try.prog 9 #[.agg #[.slice A ps.length c], .agg #[.slice B qs.length d]] w fun e w' => e = .returned (.bool (PP (ps = qs))) ∧ Below w.heap.size w w' := by
  have C := Lib.hid (eqPieceS_any A B c d ps qs ((w.alloc (.cells #[.slice A ps.length c] 34)).alloc (.cells #[.slice B qs.length d] 34)) ((hx.alloc _).alloc _) ((hy.alloc _).alloc _) hn hk)
  obtain ⟨r, hr⟩ : ∃ r, PP (ps = qs) = r := ⟨_, rfl⟩
  rw [hr] at C ⊢
  clear hx hy hr hk
  cases r
  all_goals
    go_enter Try.func9, Try.ntmps9
    go_wp2_with fail
    refine C.out.mono ?_
    rintro e w1 ⟨rfl, hb⟩
    go_wp2
    go_ret
    exact ⟨rfl, below_step (below_step (below_alloc _ _) (below_alloc _ _)) hb⟩

section
variable {H : Type} {enc : TypeId × Value → H} {w : World} {base : Nat} {spare : Nat → Bool} {held : Bool}
theorem open_intsF {fuel : Nat} {v : Value} {x : DataW H × List MemPlace} (h : DataW.trod enc Try.prog w base spare held fuel 47 [v] = some x) :
    ∃ (A : Option Addr) (c : Nat) (zs : List Int), v = .slice A zs.length c ∧ RdI w A zs.length zs ∧ zs.length ≤ c ∧ c ≤ maxLen ∧ ∀ z ∈ zs, -9223372036854775808 ≤ z ∧ z ≤ 9223372036854775807 := by
  rcases open_slice Try.underlying47 h with ⟨hcs, _⟩ | ⟨a, len, cap, m, n, D, Pl, hcs, _, hl, hm, hmm, _, hi⟩
  · simp at hcs
    subst hcs
    exact ⟨none, 0, [], rfl, ⟨rfl, fun h => absurd h (by simp)⟩, Nat.le_refl _, by unfold maxLen; omega, by simp⟩
  · simp at hcs
    subst hcs
    have hlm : len ≤ m := by rw [hmm]; split <;> omega
    obtain ⟨es, hes, hp⟩ := list_of (α := Int) (P := fun i e => w.cell? (a.add i) = some (.int .i64 e) ∧ -9223372036854775808 ≤ e ∧ e ≤ 9223372036854775807) len (fun i hil => by
      obtain ⟨cs', hc, ht⟩ := hi i (by omega)
      rw [Try.cellsInt] at hc
      obtain ⟨_, hcl, hat⟩ := World.cells?_some hc
      obtain ⟨b, rfl, _, wf⟩ := DataW.trod_int Try.underlying3 ht
      have h0 := hat 0 (by omega)
      rw [add_of_add] at h0
      exact ⟨b, by simpa using h0, bounds_i64 wf⟩)
    subst hes
    refine ⟨some a, cap, es, rfl, ⟨by simp, fun _ => ⟨a, rfl, fun j u hu => ?_⟩⟩, hl, hm, fun z hz => ?_⟩
    · have hj : j < es.length := by
        have := (List.getElem?_eq_some_iff.1 hu).1
        simpa using this
      rw [(hp j hj).1, ← hu]
      simp [List.getElem?_eq_getElem hj]
    · obtain ⟨i, hi, rfl⟩ := List.getElem_of_mem hz
      exact (hp i hi).2
/-- The parts of a piece are in their kinds' ranges. -/
def Pc.ok (p : Pc) : Prop := (-9223372036854775808 ≤ p.op ∧ p.op ≤ 9223372036854775807) ∧ (0 ≤ p.l ∧ p.l ≤ 255) ∧ p.k.length ≤ maxLen ∧ ∀ z ∈ p.k, -9223372036854775808 ≤ z ∧ z ≤ 9223372036854775807
theorem Try.cellsIntS : Try.prog.cellsOf 47 = 1 := by kernel_rfl
set_option maxRecDepth 100000 in
theorem piece_cells {n : Nat} {cs : List Value} {x : DataW H × List MemPlace} (h : DataW.trod enc Try.prog w base spare held n 77 cs = some x) (hl : cs.length = 3) :
    ∃ e : PcX, cs = e.cells ∧ e.p.ok ∧ RdI w e.K e.p.k.length e.p.k := by
  obtain ⟨xs, m, _, _, _, hxl, hf⟩ := DataW.trod_struct Try.underlying77 h
  match cs, hl with
  | [c0, c1, c2], _ =>
    match xs, hxl with
    | [y0, y1, y2], _ =>
      have h0 : DataW.trod enc Try.prog w base spare held m 3 (List.take (Try.prog.cellsOf 3) [c0, c1, c2]) = some y0 := hf 0 _ rfl
      have h1 : DataW.trod enc Try.prog w base spare held m 5 (List.take (Try.prog.cellsOf 5) [c1, c2]) = some y1 := hf 1 _ rfl
      have h2 : DataW.trod enc Try.prog w base spare held m 47 (List.take (Try.prog.cellsOf 47) [c2]) = some y2 := hf 2 _ rfl
      rw [Try.cellsInt] at h0
      rw [Try.cellsU8] at h1
      rw [Try.cellsIntS] at h2
      simp only [List.take] at h0 h1 h2
      obtain ⟨a, e0, _, w0⟩ := DataW.trod_int Try.underlying3 h0
      obtain ⟨b, e1, _, w1⟩ := DataW.trod_int Try.underlying5 h1
      obtain ⟨A, c, zs, rfl, hr, hlc, hcm, hz⟩ := open_intsF h2
      simp at e0 e1
      subst e0 e1
      exact ⟨⟨⟨a, b, zs⟩, A, c⟩, rfl, ⟨bounds_i64 w0, bounds_u8 w1, Nat.le_trans hlc hcm, hz⟩, hr⟩
theorem Try.cellsPiece : Try.prog.cellsOf 77 = 3 := by kernel_rfl
theorem open_pieces {fuel : Nat} {v : Value} {x : DataW H × List MemPlace} (h : DataW.trod enc Try.prog w base spare held fuel 22 [v] = some x) :
    ∃ (A : Option Addr) (c : Nat) (ps : List Pc), v = .slice A ps.length c ∧ RdP w A ps ∧ ps.length ≤ c ∧ c ≤ maxLen ∧ ∀ p ∈ ps, p.ok := by
  rcases open_slice Try.underlying22 h with ⟨hcs, _⟩ | ⟨a, len, cap, m, n, D, Pl, hcs, _, hl, hm, hmm, _, hi⟩
  · simp at hcs
    subst hcs
    exact ⟨none, 0, [], rfl, ⟨[], rfl, ⟨rfl, fun h => absurd h (by simp)⟩, by simp⟩, Nat.le_refl _, by unfold maxLen; omega, by simp⟩
  · simp at hcs
    subst hcs
    have hlm : len ≤ m := by rw [hmm]; split <;> omega
    obtain ⟨es, hes, hp⟩ := list_of (α := PcX) (P := fun i e => (w.cell? (a.add (i * 3)) = some (.int .i64 e.p.op) ∧ w.cell? (a.add (i * 3 + 1)) = some (.int .u8 e.p.l) ∧ w.cell? (a.add (i * 3 + 2)) = some e.v) ∧ e.p.ok ∧ RdI w e.K e.p.k.length e.p.k) len (fun i hil => by
      obtain ⟨cs', hc, ht⟩ := hi i (by omega)
      rw [Try.cellsPiece] at hc
      obtain ⟨_, hcl, hat⟩ := World.cells?_some hc
      obtain ⟨e, rfl, hok, hr⟩ := piece_cells ht hcl
      have h0 := hat 0 (by omega)
      have h1 := hat 1 (by omega)
      have h2 := hat 2 (by omega)
      rw [add_of_add] at h0 h1 h2
      exact ⟨e, ⟨h0, h1, h2⟩, hok, hr⟩)
    subst hes
    refine ⟨some a, cap, es.map PcX.p, by simp, ⟨es, rfl, ⟨by rw [pxCells_len]; simp, fun _ => ⟨a, rfl, fun j u hu => ?_⟩⟩, fun x hx => ?_⟩, by simpa using hl, hm, fun p hp2 => ?_⟩
    · have hj : j < (pxCells es).length := (List.getElem?_eq_some_iff.1 hu).1
      rw [pxCells_len] at hj
      have hk : j / 3 < es.length := by omega
      obtain ⟨⟨c0, c1, c2⟩, _⟩ := hp _ hk
      obtain ⟨g0, g1, g2⟩ := pxCells_at es _ hk
      rcases (by omega : j = j / 3 * 3 ∨ j = j / 3 * 3 + 1 ∨ j = j / 3 * 3 + 2) with e | e | e
      · rw [← e] at c0 g0; rw [c0, ← g0, hu]
      · rw [← e] at c1 g1; rw [c1, ← g1, hu]
      · rw [← e] at c2 g2; rw [c2, ← g2, hu]
    · obtain ⟨i, hi, rfl⟩ := List.getElem_of_mem hx
      exact (hp i hi).2.2
    · obtain ⟨x, hx, rfl⟩ := List.mem_map.1 hp2
      obtain ⟨i, hi, rfl⟩ := List.getElem_of_mem hx
      exact (hp i hi).2.1
theorem open_agg1 {P : Program} {r : Reach} {b0 : Nat} {t : TypeId} {f0 : Field} {v : Value} {d : DataW H} {p : List MemPlace} (hs : P.underlying t = some (.struct #[f0])) (hone : oneCellFields P #[f0] = true) (hC : P.cellsOf t = 1)
    (hv : Value.okWide P w r b0 t v) (h : DataW.Trod enc P w base spare held t v d p) :
    ∃ (v0 : Value) (y0 : DataW H × List MemPlace) (n : Nat), v = .agg #[v0] ∧ DataW.trod enc P w base spare held n f0.type [v0] = some y0 := by
  obtain ⟨cs, rfl, hsz⟩ := okWide_struct hs hv
  have hsz1 : cs.size = 1 := hsz.trans hC
  obtain ⟨c0, rfl⟩ : ∃ c0, cs = #[c0] := by
    rcases cs with ⟨l⟩
    match l, hsz1 with
    | [c0], _ => exact ⟨c0, rfl⟩
  obtain ⟨fuel, hf⟩ := h
  obtain ⟨y0, n, _, _, h0⟩ := trod_struct1 hs hf
  obtain ⟨o0, k0⟩ := hone_of hone 0 f0 rfl
  exact ⟨c0, y0, n, rfl, by simpa [Value.cells, o0, k0] using h0⟩
/-- A path as it came in. -/
def PaK (w : World) (v : Value) (ps : List Pc) : Prop := ∃ A c, v = .agg #[.slice A ps.length c] ∧ RdP w A ps ∧ ps.length ≤ c ∧ c ≤ maxLen ∧ ∀ p ∈ ps, p.ok
theorem Try.cellsPath : Try.prog.cellsOf 24 = 1 := by kernel_rfl
set_option maxRecDepth 100000 in
theorem open_path {b0 : Nat} {r : Reach} {v : Value} {d : DataW H} {p : List MemPlace}
    (hv : Value.okWide Try.prog w r b0 24 v) (h : DataW.Trod enc Try.prog w base spare held 24 v d p) : ∃ ps, PaK w v ps := by
  obtain ⟨v0, y0, n, rfl, h0⟩ := open_agg1 Try.underlying24 (by kernel_rfl) Try.cellsPath hv h
  obtain ⟨A, c, ps, rfl, hr, hl, hm, hok⟩ := open_pieces h0
  exact ⟨ps, A, c, rfl, hr, hl, hm, hok⟩
end
end Go.Proofs.Ytjlekcoikceidaa
