/- Bags: copied, compared, sized; opened. No conditions but the lengths. -/
import Derived.Test.YtdikkfhdogkniaaItm
import Derived.Test.YtdikkfhdogkniaaBelowQ
import Derived.Test.YtdikkfhdogkniaaPP
import Derived.Test.YtdikkfhdogkniaaOpenI
namespace Go.Proofs.Ytdikkfhdogkniaa
open Go.ChangeShapes Go.WideShapes Go.ChangeAt Go.RowKit Go.Joins Go.Deep
set_option maxRecDepth 100000 in

set_option maxHeartbeats 1600000 in
theorem toBag_any (A : Option Addr) (c : Nat) (ps : List It) (w : World) (hx : RdB w A ps) (hn : ps.length ≤ 4294967296) (hk : ∀ p ∈ ps, p.r.length ≤ 4294967296) :
    Calls Try.prog 14 #[.agg #[.slice A ps.length c]] w (MadeBag w ps) := by
  have HX := Lib.hid hx
  have HK := Lib.hid hk
  clear hx hk
  go_enter Try.func14, Try.ntmps14
  go_wp2_with fail
  refine (toItemS_any A c ps _ (((HX.out.alloc _).alloc _).alloc _) hn HK.out).mono ?_
  rintro e w1 ⟨A1, c1, rfl, hown, hb⟩
  have HB := Lib.hid hb
  obtain ⟨hcl, hfr⟩ := bcell hb
  have hz : w.heap.size + 3 ≤ w1.heap.size := by have := hb.size; simp at this; omega
  have h1 : w1.cell? ⟨w.heap.size + 2, 0, none⟩ = some (.slice none 0 0) := by rw [hcl _ _ (by simp)]; go_simp
  have h2 : w1.cell? ⟨w.heap.size + 1, 0, none⟩ = some (.slice none 0 0) := by rw [hcl _ _ (by simp)]; go_simp
  have g2 : w1.frozen? ⟨w.heap.size + 2, 0, none⟩ = false := by rw [hfr _ _ (by simp)]; go_simp
  have g3 : w1.frozen? ⟨w.heap.size + 1, 0, none⟩ = false := by rw [hfr _ _ (by simp)]; go_simp
  have HO := Lib.hid hown
  clear hown hb hcl hfr
  go_wp2
  refine bodyPost_ret (v := .agg #[.slice A1 ps.length c1]) (by simp [results, Try.results14, go_sem, h2]) rfl ⟨A1, c1, rfl, ?_, ?_⟩
  · obtain ⟨xs, e1, h⟩ := HO.out
    refine ⟨xs, e1, own_mono (ownsRow_setCell_below (ownsRow_setCell_below h.row (by simp) _) (by simp) _) (by simp; omega), fun x hx => own_mono (ownsRow_setCell_below (ownsRow_setCell_below (h.kids x hx) (by simp) _) (by simp) _) (by simp; omega), h.apart⟩
  · have hb3 : Below w.heap.size w w1 := below_step ((((Below.refl w.heap.size w).alloc (Nat.le_refl _) _).alloc (by simp) _).alloc (by simp; omega) _) HB.out
    exact (hb3.setCell (by simp; omega) _).setCell (by simp) _

/-- How many kids there are. -/
def sumR (ps : List It) : Nat := (ps.map fun p => p.r.length).sum
theorem sumR_next {ps : List It} {k : Nat} (h : k < ps.length) : sumR (ps.take (k + 1)) = sumR (ps.take k) + ps[k].r.length := by
  unfold sumR
  rw [List.take_succ_eq_append_getElem h, List.map_append, List.sum_append]
  simp
theorem sumR_le (ps : List It) (k : Nat) : sumR (ps.take k) ≤ sumR ps := by
  have h : sumR ps = sumR (ps.take k) + sumR (ps.drop k) := by
    unfold sumR
    rw [← List.sum_append, ← List.map_append, List.take_append_drop]
  omega
theorem sumR_mem {ps : List It} {p : It} (h : p ∈ ps) : p.r.length ≤ sumR ps := by
  obtain ⟨i, hi, rfl⟩ := List.getElem_of_mem h
  have h1 := sumR_next hi
  have h2 := sumR_le ps (i + 1)
  omega
def szB (ps : List It) (left : Int) : Int := if (ps.length : Int) + sumR ps ≤ left then left - ps.length - sumR ps else -1
theorem szB_yes {ps : List It} {left : Int} (h : (ps.length : Int) + sumR ps ≤ left) : szB ps left = left - ps.length - sumR ps := if_pos h
theorem szB_no {ps : List It} {left : Int} (h : ¬ (ps.length : Int) + sumR ps ≤ left) : szB ps left = -1 := if_neg h

set_option maxRecDepth 100000 in
theorem szIntS_any (A : Option Addr) (n c : Nat) (left : Int) (w : World) (hl : 0 ≤ left ∧ left ≤ 4611686018427387904) (hn : n ≤ 9223372036854775807) :
    Calls Try.prog 87 #[.slice A n c, .int .i64 left] w fun e w' => e = .returned (.int .i64 (if (n : Int) ≤ left then left - n else -1)) ∧ w = w' := by
  obtain ⟨h0, h1⟩ := hl
  by_cases h : (n : Int) ≤ left
  · rw [if_pos h]
    go_enter Try.func87, Try.ntmps87
    go_wp2
    go_ret
    exact ⟨rfl, rfl⟩
  · rw [if_neg h]
    go_enter Try.func87, Try.ntmps87
    go_wp2
    go_ret
    exact ⟨rfl, rfl⟩
set_option maxRecDepth 100000 in
theorem szItem_any (t : Int) (A : Option Addr) (n c : Nat) (left : Int) (w : World) (hl : 0 ≤ left ∧ left ≤ 4611686018427387904) (hn : n ≤ 9223372036854775807) :
    Calls Try.prog 74 #[.agg #[.slice A n c, .int .i64 t], .int .i64 left] w fun e w' => e = .returned (.int .i64 (if (n : Int) ≤ left then left - n else -1)) ∧ Below w.heap.size w w' := by
  have C := Lib.hid (fun w => szIntS_any A n c left w hl hn)
  obtain ⟨h0, h1⟩ := hl
  by_cases h : (n : Int) ≤ left
  · rw [if_pos h] at C ⊢
    go_enter Try.func74, Try.ntmps74
    go_wp2_with (go_at_call 87; refine (C.out _).mono ?_; rintro e w1 ⟨rfl, rfl⟩)
    go_ret
    exact ⟨rfl, below_alloc _ _⟩
  · rw [if_neg h] at C ⊢
    go_enter Try.func74, Try.ntmps74
    go_wp2_with (go_at_call 87; refine (C.out _).mono ?_; rintro e w1 ⟨rfl, rfl⟩)
    go_ret
    exact ⟨rfl, below_alloc _ _⟩
set_option maxRecDepth 100000 in
set_option maxHeartbeats 1600000 in
theorem szItemS_any (A : Option Addr) (c : Nat) (ps : List It) (left : Int) (w : World) (hx : RdB w A ps) (hl : 0 ≤ left ∧ left ≤ 4611686018427387904) (hn : ps.length ≤ 9223372036854775807) (hk : ∀ p ∈ ps, p.r.length ≤ 9223372036854775807) :
    Calls Try.prog 43 #[.slice A ps.length c, .int .i64 left] w fun e w' => e = .returned (.int .i64 (szB ps left)) ∧ Below w.heap.size w w' := by
  have HX := Lib.hid hx
  have HK := Lib.hid hk
  clear hx hk
  obtain ⟨h0, h1⟩ := hl
  by_cases h : (ps.length : Int) ≤ left
  · go_enter Try.func43, Try.ntmps43
    go_wp2
    go_loopw [1, 5] (fun v i wr => ∃ k z : Nat, k ≤ ps.length ∧ i = .int .i64 k ∧ v = .int .i64 (left - ps.length - z) ∧ Hid (z = sumR (ps.take k)) ∧ (ps.length : Int) + z ≤ left ∧ Below w.heap.size w wr) (fun _ i _ => ps.length - (intOf i).toNat)
    case atStart => exact ⟨0, 0, Nat.zero_le _, rfl, by simp, Lib.hid rfl, by omega, Below.refl _ _⟩
    case round =>
      obtain ⟨k, z, hk, rfl, rfl, HZ, hzl, hb⟩ := hrel
      by_cases hlt : k < ps.length
      · obtain ⟨b, o, Kk, ck, rfl, c0, c1, hrk⟩ := (RdB.keep HX.out hb).at_ hlt
        have hkl := HK.out ps[k] (List.getElem_mem hlt)
        have hsn := sumR_next hlt
        have hsl := sumR_le ps (k + 1)
        obtain ⟨pk, hpk⟩ : ∃ pk, ps[k] = pk := ⟨_, rfl⟩
        rw [hpk] at c0 c1 hkl hsn
        rw [← HZ.out] at hsn
        clear hrk hpk
        obtain ⟨L, hL⟩ : ∃ L : Int, left - ps.length - z = L := ⟨_, rfl⟩
        have hL0 : 0 ≤ L := by omega
        have hL1 : L ≤ 4611686018427387904 := by omega
        have T := Lib.hid (fun w => szItem_any pk.t Kk pk.r.length ck L w ⟨hL0, hL1⟩ hkl)
        have k0 : (0 : Int) ≤ (k : Int) := by omega
        have k1 : (k : Int) < (ps.length : Int) := by omega
        have HSN := Lib.hid hsn
        have HLL := Lib.hid hL
        rw [hL]
        clear hsn hL
        by_cases hfit : (pk.r.length : Int) ≤ L
        · rw [if_pos hfit] at T
          go_wp2_with fail
          refine (T.out _).mono ?_
          rintro e w1 ⟨rfl, hb1⟩
          go_wp2
          go_roundw
          case rel =>
            have e1 := HSN.out
            have e2 := HLL.out
            exact ⟨k + 1, sumR (ps.take (k + 1)), by omega, by go_num, by rw [e1, ← e2]; congr 1; push_cast; omega, Lib.hid rfl, by omega, below_step hb hb1⟩
          case measure => simp [intOf]; omega
        · rw [if_neg hfit] at T
          go_wp2_with fail
          refine (T.out _).mono ?_
          rintro e w1 ⟨rfl, hb1⟩
          go_wp2
          go_ret
          refine ⟨?_, below_step hb hb1⟩
          have e1 := HSN.out
          have e2 := HLL.out
          rw [szB_no (by omega)]
          rfl
      · obtain rfl : k = ps.length := by omega
        have hz := HZ.out
        rw [List.take_of_length_le (Nat.le_refl _)] at hz
        subst hz
        go_wp2
        go_ret
        exact ⟨by rw [szB_yes hzl]; rfl, hb⟩
  · rw [szB_no (by omega)]
    go_enter Try.func43, Try.ntmps43
    go_wp2
    go_ret
    exact ⟨rfl, Below.refl _ _⟩
set_option maxRecDepth 100000 in
theorem szBag_any (A : Option Addr) (c : Nat) (ps : List It) (left : Int) (w : World) (hx : RdB w A ps) (hl : 0 ≤ left ∧ left ≤ 4611686018427387904) (hn : ps.length ≤ 9223372036854775807) (hk : ∀ p ∈ ps, p.r.length ≤ 9223372036854775807) :
    Calls Try.prog 12 #[.agg #[.slice A ps.length c], .int .i64 left] w fun e w' => e = .returned (.int .i64 (szB ps left)) ∧ Below w.heap.size w w' := by
  have C := Lib.hid (szItemS_any A c ps left (w.alloc (.cells #[.slice A ps.length c] 24)) (hx.alloc _) hl hn hk)
  clear hx hk
  obtain ⟨h0, h1⟩ := hl
  by_cases h : (ps.length : Int) + sumR ps ≤ left
  · rw [szB_yes h] at C ⊢
    obtain ⟨L, hL⟩ : ∃ L : Int, left - ps.length - sumR ps = L := ⟨_, rfl⟩
    have hL0 : 0 ≤ L := by omega
    rw [hL] at C ⊢
    clear hL h
    go_enter Try.func12, Try.ntmps12
    go_wp2_with fail
    refine C.out.mono ?_
    rintro e w1 ⟨rfl, hb1⟩
    go_wp2
    go_ret
    exact ⟨rfl, below_step (below_alloc _ _) hb1⟩
  · rw [szB_no h] at C ⊢
    go_enter Try.func12, Try.ntmps12
    go_wp2_with fail
    refine C.out.mono ?_
    rintro e w1 ⟨rfl, hb1⟩
    go_wp2
    go_ret
    exact ⟨rfl, below_step (below_alloc _ _) hb1⟩

set_option maxRecDepth 100000 in
set_option maxHeartbeats 1600000 in
theorem eqItem_any (p q : It) (A B : Option Addr) (c d : Nat) (w : World) (hx : RdI w A p.r.length p.r) (hy : RdI w B q.r.length q.r) (hn : p.r.length ≤ 4294967296) :
    Calls Try.prog 76 #[.agg #[.slice A p.r.length c, .int .i64 p.t], .agg #[.slice B q.r.length d, .int .i64 q.t]] w fun e w' => e = .returned (.bool (PP (p = q))) ∧ Below w.heap.size w w' := by
  have k0 := below_step (below_alloc w (.cells #[.slice A p.r.length c, .int .i64 p.t] 54)) (below_alloc (w.alloc (.cells #[.slice A p.r.length c, .int .i64 p.t] 54)) (.cells #[.slice B q.r.length d, .int .i64 q.t] 54))
  have C := Lib.hid (eqIntS_any A B p.r.length q.r.length c d p.r q.r _ (RdI.below hx k0) (RdI.below hy k0) hn)
  have K0 := Lib.hid k0
  obtain ⟨W2, hW2⟩ : ∃ W2, (w.alloc (.cells #[.slice A p.r.length c, .int .i64 p.t] 54)).alloc (.cells #[.slice B q.r.length d, .int .i64 q.t] 54) = W2 := ⟨_, rfl⟩
  have b0 : W2.cell? ⟨w.heap.size, 1, none⟩ = some (.int .i64 p.t) := by rw [← hW2]; exact blk_cell (o := 1) (blk_below (below_alloc _ _) (heap_alloc_new w _)) rfl
  have b1 : W2.cell? ⟨w.heap.size + 1, 1, none⟩ = some (.int .i64 q.t) := by
    rw [← hW2]
    have := heap_alloc_new (w.alloc (.cells #[.slice A p.r.length c, .int .i64 p.t] 54)) (.cells #[.slice B q.r.length d, .int .i64 q.t] 54)
    exact blk_cell (o := 1) (by simpa using this) rfl
  rw [hW2] at C K0
  have KS : w.heap.size + 2 ≤ W2.heap.size := by rw [← hW2]; simp
  have HW := Lib.hid hW2
  clear hx hy k0 hW2
  by_cases h3 : p.r = q.r
  · rw [eqL_yes h3] at C
    by_cases h1 : p.t = q.t
    · rw [PP_yes (it_ext h3 h1)]
      have n1 : (p.t != q.t) = false := by simp [h1]
      clear h1 h3
      go_enter Try.func76, Try.ntmps76
      go_wp2_with fail
      rw [HW.out]
      refine C.out.mono ?_
      rintro e w1 ⟨rfl, hb1⟩
      have c0 := held_step hb1 b0
      have c1 := held_step hb1 b1
      clear b0 b1
      go_wp2
      go_ret
      exact ⟨rfl, below_step K0.out hb1⟩
    · rw [PP_no (fun h => h1 (by rw [h]))]
      have n1 : (p.t != q.t) = true := by simpa using h1
      clear h1 h3
      go_enter Try.func76, Try.ntmps76
      go_wp2_with fail
      rw [HW.out]
      refine C.out.mono ?_
      rintro e w1 ⟨rfl, hb1⟩
      have c0 := held_step hb1 b0
      have c1 := held_step hb1 b1
      clear b0 b1
      go_wp2
      go_ret
      exact ⟨rfl, below_step K0.out hb1⟩
  · rw [eqL_no h3] at C
    rw [PP_no (fun h => h3 (by rw [h]))]
    clear h3
    go_enter Try.func76, Try.ntmps76
    go_wp2_with fail
    rw [HW.out]
    refine C.out.mono ?_
    rintro e w1 ⟨rfl, hb1⟩
    go_wp2
    go_ret
    exact ⟨rfl, below_step K0.out hb1⟩

set_option maxRecDepth 100000 in
set_option maxHeartbeats 3200000 in
theorem eqItemS_any (A B : Option Addr) (c d : Nat) (ps qs : List It) (w : World) (hx : RdB w A ps) (hy : RdB w B qs) (hn : ps.length ≤ 4294967296) (hk : ∀ p ∈ ps, p.r.length ≤ 4294967296) :
    Calls Try.prog 50 #[.slice A ps.length c, .slice B qs.length d] w fun e w' => e = .returned (.bool (PP (ps = qs))) ∧ Below w.heap.size w w' := by
  have HX := Lib.hid hx
  have HY := Lib.hid hy
  have HK := Lib.hid hk
  clear hx hy hk
  by_cases hnm : ps.length = qs.length
  · have b1 : ((ps.length : Int) != (qs.length : Int)) = false := by rw [bne_eq_false_iff_eq]; omega
    have l1 : ps.length ≤ qs.length := by omega
    have l2 : qs.length ≤ ps.length := by omega
    clear hnm
    go_enter Try.func50, Try.ntmps50
    go_wp2
    go_loopw [5] (fun i wr => ∃ k : Nat, k ≤ ps.length ∧ i = .int .i64 k ∧ Hid (ps.take k = qs.take k) ∧ Below w.heap.size w wr) (fun i _ => ps.length - (intOf i).toNat)
    case atStart => exact ⟨0, Nat.zero_le _, rfl, by show _ = _; simp, Below.refl _ _⟩
    case round =>
      obtain ⟨k, hk, rfl, HE, hb⟩ := hrel
      by_cases hlt : k < ps.length
      · have hlt2 : k < qs.length := by omega
        obtain ⟨b, o, K1, d1, rfl, c0, c1, r1⟩ := (RdB.keep HX.out hb).at_ hlt
        obtain ⟨b', o', K2, d2, rfl, c0', c1', r2⟩ := (RdB.keep HY.out hb).at_ hlt2
        have hkl := HK.out ps[k] (List.getElem_mem hlt)
        obtain ⟨x, hxx⟩ : ∃ x, ps[k] = x := ⟨_, rfl⟩
        obtain ⟨y, hyy⟩ : ∃ y, qs[k] = y := ⟨_, rfl⟩
        rw [hxx] at c0 c1 r1 hkl
        rw [hyy] at c0' c1' r2
        have EX := Lib.hid hxx
        have EY := Lib.hid hyy
        clear hxx hyy
        have k0 : (0 : Int) ≤ (k : Int) := by omega
        have k1 : (k : Int) < (ps.length : Int) := by omega
        have k2 : (k : Int) < (qs.length : Int) := by omega
        have R1 := Lib.hid (fun p : BelowOf wr => RdI.below r1 p.h)
        have R2 := Lib.hid (fun p : BelowOf wr => RdI.below r2 p.h)
        have T := Lib.hid (fun w h1 h2 => eqItem_any x y K1 K2 d1 d2 w h1 h2 hkl)
        obtain ⟨r, hr⟩ : ∃ r, PP (x = y) = r := ⟨_, rfl⟩
        rw [hr] at T
        have HR := Lib.hid hr
        have c0 := fun p => cellQ c0 p
        have c1 := fun p => cellQ c1 p
        have c0' := fun p => cellQ c0' p
        have c1' := fun p => cellQ c1' p
        clear hr r1 r2
        go_wp2_with fail
        refine wp_region_below (by kernel_rfl) (by kernel_rfl) ?_
        repeat (first
          | go_big_quiet_step ((go_at_call 76; exact Calls.below_of (T.out _ (R1.out _) (R2.out _))))
          | quiet_step ((go_at_call 76; exact Calls.below_of (T.out _ (R1.out _) (R2.out _)))))
        refine wpQuiet_nil ?_
        intro _ hw'
        obtain ⟨⟨w5, kk⟩, hw''⟩ := hw'
        subst hw''
        have hb5 := below_step hb kk
        clear c0 c1 c0' c1'
        cases r
        · go_wp2
          go_ret
          refine ⟨ret_b2 (PP_no fun h => ?_).symm, hb5⟩
          have h1 : ps[k] = qs[k] := by subst h; rfl
          rw [EX.out, EY.out] at h1
          have h2 := HR.out
          rw [PP_yes h1] at h2
          cases h2
        · go_wp2
          go_roundw
          case rel =>
            refine ⟨k + 1, by omega, by go_num, ?_, hb5⟩
            show _ = _
            have h2 : x = y := by
              have := HR.out
              unfold PP at this
              exact @of_decide_eq_true _ (Classical.propDecidable _) this
            rw [List.take_succ_eq_append_getElem hlt, List.take_succ_eq_append_getElem hlt2, HE.out, EX.out, EY.out, h2]
          case measure => simp [intOf]; omega
      · obtain rfl : k = ps.length := by omega
        go_wp2
        go_ret
        refine ⟨ret_b2 (PP_yes ?_).symm, hb⟩
        have := HE.out
        rw [List.take_of_length_le (Nat.le_refl _), List.take_of_length_le l2] at this
        exact this
  · have b1 : ((ps.length : Int) != (qs.length : Int)) = true := by rw [bne_iff_ne]; omega
    rw [PP_no (fun h => hnm (by rw [h]))]
    clear hnm
    go_enter Try.func50, Try.ntmps50
    go_wp2
    go_ret
    exact ⟨rfl, Below.refl _ _⟩

set_option maxRecDepth 100000 in
theorem eqBag_any (A B : Option Addr) (c d : Nat) (ps qs : List It) (w : World) (hx : RdB w A ps) (hy : RdB w B qs) (hn : ps.length ≤ 4294967296) (hk : ∀ p ∈ ps, p.r.length ≤ 4294967296) :
    Calls Try.prog 16 #[.agg #[.slice A ps.length c], .agg #[.slice B qs.length d]] w fun e w' => e = .returned (.bool (PP (ps = qs))) ∧ Below w.heap.size w w' := by
  have C := Lib.hid (eqItemS_any A B c d ps qs ((w.alloc (.cells #[.slice A ps.length c] 29)).alloc (.cells #[.slice B qs.length d] 29)) ((hx.alloc _).alloc _) ((hy.alloc _).alloc _) hn hk)
  obtain ⟨r, hr⟩ : ∃ r, PP (ps = qs) = r := ⟨_, rfl⟩
  rw [hr] at C ⊢
  clear hx hy hr hk
  cases r
  all_goals
    go_enter Try.func16, Try.ntmps16
    go_wp2_with fail
    refine C.out.mono ?_
    rintro e w1 ⟨rfl, hb⟩
    go_wp2
    go_ret
    exact ⟨rfl, below_step (below_step (below_alloc _ _) (below_alloc _ _)) hb⟩

section
variable {H : Type} {enc : TypeId × Value → H} {w : World} {base : Nat} {spare : Nat → Bool} {held : Bool}
theorem open_intsF {fuel : Nat} {v : Value} {x : DataW H × List MemPlace} (h : DataW.trod enc Try.prog w base spare held fuel 40 [v] = some x) :
    ∃ (A : Option Addr) (c : Nat) (zs : List Int), v = .slice A zs.length c ∧ RdI w A zs.length zs ∧ zs.length ≤ c ∧ c ≤ maxLen ∧ ∀ z ∈ zs, -9223372036854775808 ≤ z ∧ z ≤ 9223372036854775807 := by
  rcases open_slice Try.underlying40 h with ⟨hcs, _⟩ | ⟨a, len, cap, m, n, D, Pl, hcs, _, hl, hm, hmm, _, hi⟩
  · simp at hcs
    subst hcs
    exact ⟨none, 0, [], rfl, ⟨rfl, fun h => absurd h (by simp)⟩, Nat.le_refl _, by unfold maxLen; omega, by simp⟩
  · simp at hcs
    subst hcs
    have hlm : len ≤ m := by rw [hmm]; split <;> omega
    obtain ⟨es, hes, hp⟩ := list_of (α := Int) (P := fun i e => w.cell? (a.add i) = some (.int .i64 e) ∧ -9223372036854775808 ≤ e ∧ e ≤ 9223372036854775807) len (fun i hil => by
      obtain ⟨cs', hc, ht⟩ := hi i (by omega)
      rw [Try.cellsInt] at hc
      obtain ⟨_, hcl, hat⟩ := World.cells?_some hc
      obtain ⟨b, rfl, _, wf⟩ := DataW.trod_int Try.underlying3 ht
      have h0 := hat 0 (by omega)
      rw [add_of_add] at h0
      exact ⟨b, by simpa using h0, bounds_i64 wf⟩)
    subst hes
    refine ⟨some a, cap, es, rfl, ⟨by simp, fun _ => ⟨a, rfl, fun j u hu => ?_⟩⟩, hl, hm, fun z hz => ?_⟩
    · have hj : j < es.length := by
        have := (List.getElem?_eq_some_iff.1 hu).1
        simpa using this
      rw [(hp j hj).1, ← hu]
      simp [List.getElem?_eq_getElem hj]
    · obtain ⟨i, hi, rfl⟩ := List.getElem_of_mem hz
      exact (hp i hi).2
/-- The parts of an item are in their kinds' ranges. -/
def It.ok (p : It) : Prop := (-9223372036854775808 ≤ p.t ∧ p.t ≤ 9223372036854775807) ∧ p.r.length ≤ maxLen ∧ ∀ z ∈ p.r, -9223372036854775808 ≤ z ∧ z ≤ 9223372036854775807
theorem Try.cellsIntS : Try.prog.cellsOf 40 = 1 := by kernel_rfl
set_option maxRecDepth 100000 in
theorem item_cells {n : Nat} {cs : List Value} {x : DataW H × List MemPlace} (h : DataW.trod enc Try.prog w base spare held n 93 cs = some x) (hl : cs.length = 2) :
    ∃ e : ItX, cs = e.cells ∧ e.p.ok ∧ RdI w e.K e.p.r.length e.p.r := by
  obtain ⟨xs, m, _, _, _, hxl, hf⟩ := DataW.trod_struct Try.underlying93 h
  match cs, hl with
  | [c0, c1], _ =>
    match xs, hxl with
    | [y0, y1], _ =>
      have h0 : DataW.trod enc Try.prog w base spare held m 40 (List.take (Try.prog.cellsOf 40) [c0, c1]) = some y0 := hf 0 _ rfl
      have h1 : DataW.trod enc Try.prog w base spare held m 3 (List.take (Try.prog.cellsOf 3) [c1]) = some y1 := hf 1 _ rfl
      rw [Try.cellsIntS] at h0
      rw [Try.cellsInt] at h1
      simp only [List.take] at h0 h1
      obtain ⟨A, c, zs, rfl, hr, hlc, hcm, hz⟩ := open_intsF h0
      obtain ⟨a, e1, _, w1⟩ := DataW.trod_int Try.underlying3 h1
      simp at e1
      subst e1
      exact ⟨⟨⟨zs, a⟩, A, c⟩, rfl, ⟨bounds_i64 w1, Nat.le_trans hlc hcm, hz⟩, hr⟩
theorem Try.cellsItem : Try.prog.cellsOf 93 = 2 := by kernel_rfl
theorem open_items {fuel : Nat} {v : Value} {x : DataW H × List MemPlace} (h : DataW.trod enc Try.prog w base spare held fuel 22 [v] = some x) :
    ∃ (A : Option Addr) (c : Nat) (ps : List It), v = .slice A ps.length c ∧ RdB w A ps ∧ ps.length ≤ c ∧ c ≤ maxLen ∧ ∀ p ∈ ps, p.ok := by
  rcases open_slice Try.underlying22 h with ⟨hcs, _⟩ | ⟨a, len, cap, m, n, D, Pl, hcs, _, hl, hm, hmm, _, hi⟩
  · simp at hcs
    subst hcs
    exact ⟨none, 0, [], rfl, ⟨[], rfl, ⟨rfl, fun h => absurd h (by simp)⟩, by simp⟩, Nat.le_refl _, by unfold maxLen; omega, by simp⟩
  · simp at hcs
    subst hcs
    have hlm : len ≤ m := by rw [hmm]; split <;> omega
    obtain ⟨es, hes, hp⟩ := list_of (α := ItX) (P := fun i e => (w.cell? (a.add (i * 2)) = some e.v ∧ w.cell? (a.add (i * 2 + 1)) = some (.int .i64 e.p.t)) ∧ e.p.ok ∧ RdI w e.K e.p.r.length e.p.r) len (fun i hil => by
      obtain ⟨cs', hc, ht⟩ := hi i (by omega)
      rw [Try.cellsItem] at hc
      obtain ⟨_, hcl, hat⟩ := World.cells?_some hc
      obtain ⟨e, rfl, hok, hr⟩ := item_cells ht hcl
      have h0 := hat 0 (by omega)
      have h1 := hat 1 (by omega)
      rw [add_of_add] at h0 h1
      exact ⟨e, ⟨h0, h1⟩, hok, hr⟩)
    subst hes
    refine ⟨some a, cap, es.map ItX.p, by simp, ⟨es, rfl, ⟨by rw [ixCells_len]; simp, fun _ => ⟨a, rfl, fun j u hu => ?_⟩⟩, fun x hx => ?_⟩, by simpa using hl, hm, fun p hp2 => ?_⟩
    · have hj : j < (ixCells es).length := (List.getElem?_eq_some_iff.1 hu).1
      rw [ixCells_len] at hj
      have hk : j / 2 < es.length := by omega
      obtain ⟨⟨c0, c1⟩, _⟩ := hp _ hk
      obtain ⟨g0, g1⟩ := ixCells_at es _ hk
      rcases (by omega : j = j / 2 * 2 ∨ j = j / 2 * 2 + 1) with e | e
      · rw [← e] at c0 g0; rw [c0, ← g0, hu]
      · rw [← e] at c1 g1; rw [c1, ← g1, hu]
    · obtain ⟨i, hi, rfl⟩ := List.getElem_of_mem hx
      exact (hp i hi).2.2
    · obtain ⟨x, hx, rfl⟩ := List.mem_map.1 hp2
      obtain ⟨i, hi, rfl⟩ := List.getElem_of_mem hx
      exact (hp i hi).2.1
theorem open_agg1 {P : Program} {r : Reach} {b0 : Nat} {t : TypeId} {f0 : Field} {v : Value} {d : DataW H} {p : List MemPlace} (hs : P.underlying t = some (.struct #[f0])) (hone : oneCellFields P #[f0] = true) (hC : P.cellsOf t = 1)
    (hv : Value.okWide P w r b0 t v) (h : DataW.Trod enc P w base spare held t v d p) :
    ∃ (v0 : Value) (y0 : DataW H × List MemPlace) (n : Nat), v = .agg #[v0] ∧ DataW.trod enc P w base spare held n f0.type [v0] = some y0 := by
  obtain ⟨cs, rfl, hsz⟩ := okWide_struct hs hv
  have hsz1 : cs.size = 1 := hsz.trans hC
  obtain ⟨c0, rfl⟩ : ∃ c0, cs = #[c0] := by
    rcases cs with ⟨l⟩
    match l, hsz1 with
    | [c0], _ => exact ⟨c0, rfl⟩
  obtain ⟨fuel, hf⟩ := h
  obtain ⟨y0, n, _, _, h0⟩ := trod_struct1 hs hf
  obtain ⟨o0, k0⟩ := hone_of hone 0 f0 rfl
  exact ⟨c0, y0, n, rfl, by simpa [Value.cells, o0, k0] using h0⟩
/-- A path as it came in. -/
def BgK (w : World) (v : Value) (ps : List It) : Prop := ∃ A c, v = .agg #[.slice A ps.length c] ∧ RdB w A ps ∧ ps.length ≤ c ∧ c ≤ maxLen ∧ ∀ p ∈ ps, p.ok
theorem Try.cellsBag : Try.prog.cellsOf 24 = 1 := by kernel_rfl
set_option maxRecDepth 100000 in
theorem open_bag {b0 : Nat} {r : Reach} {v : Value} {d : DataW H} {p : List MemPlace}
    (hv : Value.okWide Try.prog w r b0 24 v) (h : DataW.Trod enc Try.prog w base spare held 24 v d p) : ∃ ps, BgK w v ps := by
  obtain ⟨v0, y0, n, rfl, h0⟩ := open_agg1 Try.underlying24 (by kernel_rfl) Try.cellsBag hv h
  obtain ⟨A, c, ps, rfl, hr, hl, hm, hok⟩ := open_items h0
  exact ⟨ps, A, c, rfl, hr, hl, hm, hok⟩
end
end Go.Proofs.Ytdikkfhdogkniaa
