/- slices.Equal at strings, atoms, filters. No conditions but the lengths. Printed by xsameq.py. -/
import Derived.Test.YtlnphcongijfiaaQuery
import Derived.Laws.StructEq
import Derived.Deep.QuietTactic
import Derived.BigQuiet
namespace Go.Proofs.Ytlnphcongijfiaa
open Go.RowKit
set_option maxRecDepth 100000 in

set_option maxHeartbeats 1600000 in
theorem EqualS_any (A B : Option Addr) (n m c d : Nat) (xs ys : List ByteArray) (w : World) (hx : RdT w A n xs) (hy : RdT w B m ys) (hn : n ≤ 4294967296) :
    Calls Try.prog 51 #[.slice A n c, .slice B m d] w fun e w' => e = .returned (.bool (eqLT xs ys)) ∧ Below w.heap.size w w' := by
  have l1 := hx.len
  have l2 := hy.len
  by_cases hnm : n = m
  · subst hnm
    have HX := Lib.hid hx
    have HY := Lib.hid hy
    have L1 := Lib.hid l1
    have L2 := Lib.hid l2
    clear hx hy l1 l2
    go_enter Try.func51, Try.ntmps51
    go_wp2
    go_loopw [13] (fun i wr => ∃ k : Nat, k ≤ n ∧ i = .int .i64 k ∧ Hid (xs.take k = ys.take k) ∧ Below w.heap.size w wr) (fun i _ => n - (intOf i).toNat)
    case atStart => exact ⟨0, Nat.zero_le _, rfl, by show _ = _; simp, Below.refl _ _⟩
    case round =>
      obtain ⟨k, hk, rfl, HE, hb⟩ := hrel
      by_cases hlt : k < n
      · obtain ⟨ad, rfl, hc⟩ := (RdT.below HX.out hb).at_ hlt
        obtain ⟨bd, rfl, hd⟩ := (RdT.below HY.out hb).at_ hlt
        obtain ⟨x, hxx⟩ : ∃ x, xs.getD k noT = x := ⟨_, rfl⟩
        obtain ⟨y, hyy⟩ : ∃ y, ys.getD k noT = y := ⟨_, rfl⟩
        rw [hxx] at hc
        rw [hyy] at hd
        have EX := Lib.hid hxx
        have EY := Lib.hid hyy
        clear hxx hyy
        have k0 : (0 : Int) ≤ (k : Int) := by omega
        have k1 : (k : Int) < (n : Int) := by omega
        by_cases hxy : x = y
        · have b1 := toList_yes hxy
          have HXY := Lib.hid hxy
          clear hxy
          go_wp2_with fail
          go_quiet (fail)
          go_wp2
          go_roundw
          case rel => exact ⟨k + 1, by omega, by go_num, by show _ = _; rw [take_nextT (by have := L1.out; omega), take_nextT (l := ys) (by have := L2.out; omega), HE.out, EX.out, EY.out, HXY.out], below_drewN hb _⟩
          case measure => simp [intOf]; omega
        · have b1 := toList_no hxy
          have HXY := Lib.hid hxy
          clear hxy
          go_wp2_with fail
          go_quiet (fail)
          go_wp2
          go_ret
          exact ⟨ret_b (eqLT_no fun h => HXY.out (by rw [← EX.out, ← EY.out, h])).symm, below_drewN hb _⟩
      · obtain rfl : k = n := by omega
        go_wp2
        go_ret
        refine ⟨ret_b (eqLT_yes ?_).symm, hb⟩
        have := HE.out
        rw [List.take_of_length_le (by have := L1.out; omega), List.take_of_length_le (by have := L2.out; omega)] at this
        exact this
  · have b1 : ((n : Int) != (m : Int)) = true := by rw [bne_iff_ne]; omega
    have hne : eqLT xs ys = false := eqLT_no fun h => hnm (by rw [← l1, ← l2, h])
    rw [hne]
    clear hx hy l1 l2 hne
    go_enter Try.func51, Try.ntmps51
    go_wp2
    go_ret
    exact ⟨rfl, Below.refl _ _⟩




set_option maxRecDepth 100000 in
set_option maxHeartbeats 1600000 in
theorem l08Texts_any (A B : Option Addr) (n m c d : Nat) (xs ys : List ByteArray) (w : World) (hx : RdT w A n xs) (hy : RdT w B m ys) (hn : n ≤ 4294967296) :
    Calls Try.prog 47 #[.slice A n c, .slice B m d] w fun e w' => e = .returned (.bool (eqLT xs ys)) ∧ Below w.heap.size w w' := by
  have l1 := hx.len
  have l2 := hy.len
  by_cases hnm : n = m
  · subst hnm
    have HX := Lib.hid hx
    have HY := Lib.hid hy
    have L1 := Lib.hid l1
    have L2 := Lib.hid l2
    clear hx hy l1 l2
    go_enter Try.func47, Try.ntmps47
    go_wp2
    go_loopw [5] (fun i wr => ∃ k : Nat, k ≤ n ∧ i = .int .i64 k ∧ Hid (xs.take k = ys.take k) ∧ Below w.heap.size w wr) (fun i _ => n - (intOf i).toNat)
    case atStart => exact ⟨0, Nat.zero_le _, rfl, by show _ = _; simp, Below.refl _ _⟩
    case round =>
      obtain ⟨k, hk, rfl, HE, hb⟩ := hrel
      by_cases hlt : k < n
      · obtain ⟨ad, rfl, hc⟩ := (RdT.below HX.out hb).at_ hlt
        obtain ⟨bd, rfl, hd⟩ := (RdT.below HY.out hb).at_ hlt
        obtain ⟨x, hxx⟩ : ∃ x, xs.getD k noT = x := ⟨_, rfl⟩
        obtain ⟨y, hyy⟩ : ∃ y, ys.getD k noT = y := ⟨_, rfl⟩
        rw [hxx] at hc
        rw [hyy] at hd
        have EX := Lib.hid hxx
        have EY := Lib.hid hyy
        clear hxx hyy
        have k0 : (0 : Int) ≤ (k : Int) := by omega
        have k1 : (k : Int) < (n : Int) := by omega
        by_cases hxy : x = y
        · have b1 := toList_yes hxy
          have HXY := Lib.hid hxy
          clear hxy
          go_wp2_with fail
          go_quiet (fail)
          go_wp2
          go_roundw
          case rel => exact ⟨k + 1, by omega, by go_num, by show _ = _; rw [take_nextT (by have := L1.out; omega), take_nextT (l := ys) (by have := L2.out; omega), HE.out, EX.out, EY.out, HXY.out], below_drewN hb _⟩
          case measure => simp [intOf]; omega
        · have b1 := toList_no hxy
          have HXY := Lib.hid hxy
          clear hxy
          go_wp2_with fail
          go_quiet (fail)
          go_wp2
          go_ret
          exact ⟨ret_b (eqLT_no fun h => HXY.out (by rw [← EX.out, ← EY.out, h])).symm, below_drewN hb _⟩
      · obtain rfl : k = n := by omega
        go_wp2
        go_ret
        refine ⟨ret_b (eqLT_yes ?_).symm, hb⟩
        have := HE.out
        rw [List.take_of_length_le (by have := L1.out; omega), List.take_of_length_le (by have := L2.out; omega)] at this
        exact this
  · have b1 : ((n : Int) != (m : Int)) = true := by rw [bne_iff_ne]; omega
    have hne : eqLT xs ys = false := eqLT_no fun h => hnm (by rw [← l1, ← l2, h])
    rw [hne]
    clear hx hy l1 l2 hne
    go_enter Try.func47, Try.ntmps47
    go_wp2
    go_ret
    exact ⟨rfl, Below.refl _ _⟩




theorem Atom_cmp (a b : At) (w : World) : (Op.equalIn 10000 86 a.val b.val).run Try.prog w = .ok (PP (a = b)) w := by
  have us := Try.underlying9
  have as_ := Try.isAgg9
  have zs := Try.sizeOf9
  have ui := Try.underlying3
  have ai := Try.isAgg3
  have zi := Try.sizeOf3
  have hS : Try.prog.underlying 86 = some (.struct (Try.prog.fieldsOf 86)) := by kernel_rfl
  unfold At.val
  rw [show (10000 : Nat) = 9999 + 1 from rfl, run_equalIn_agg w 9999 86 _ _ hS (by kernel_rfl)]
  simp only [Program.fieldsOf, Try.underlying86]
  obtain ⟨pf, pp, pt⟩ := a
  obtain ⟨qf, qp, qt⟩ := b
  simp only
  by_cases h0 : pf = qf
  rotate_left
  · rw [PP_no (fun h => h0 (by injection h))]
    have z := toList_no h0
    clear h0
    go_simp
  subst h0
  have z0 := toList_yes (Eq.refl pf)
  by_cases h1 : pp = qp
  rotate_left
  · rw [PP_no (fun h => h1 (by injection h))]
    have z := toList_no h1
    clear h1
    go_simp
  subst h1
  have z1 := toList_yes (Eq.refl pp)
  by_cases h2 : pt = qt
  rotate_left
  · rw [PP_no (fun h => h2 (by injection h))]
    have z := toList_no h2
    clear h2
    go_simp
  subst h2
  have z2 := toList_yes (Eq.refl pt)
  rw [PP_yes rfl]
  go_simp

set_option maxRecDepth 100000 in
set_option maxHeartbeats 1600000 in
theorem EqualA_any (A B : Option Addr) (c d : Nat) (xs ys : List At) (w : World) (hx : RdA_ w A xs) (hy : RdA_ w B ys) (hn : xs.length ≤ 4294967296) (hm : ys.length ≤ 4294967296) :
    Calls Try.prog 52 #[.slice A xs.length c, .slice B ys.length d] w fun e w' => e = .returned (.bool (PP (xs = ys))) ∧ Below w.heap.size w w' := by
  have HX := Lib.hid hx
  have HY := Lib.hid hy
  clear hx hy
  have eg := Try.eqGuardType86
  by_cases hnm : xs.length = ys.length
  · have b1 : ((xs.length : Int) != (ys.length : Int)) = false := by rw [bne_eq_false_iff_eq]; omega
    have l1 : xs.length ≤ ys.length := by omega
    have l2 : ys.length ≤ xs.length := by omega
    clear hnm
    go_enter Try.func52, Try.ntmps52
    go_wp2
    go_loopw [13] (fun i wr => ∃ k : Nat, k ≤ xs.length ∧ i = .int .i64 k ∧ Hid (xs.take k = ys.take k) ∧ Below w.heap.size w wr) (fun i _ => xs.length - (intOf i).toNat)
    case atStart => exact ⟨0, Nat.zero_le _, rfl, by show _ = _; simp, Below.refl _ _⟩
    case round =>
      obtain ⟨k, hk, rfl, HE, hb⟩ := hrel
      by_cases hlt : k < xs.length
      · have hlt2 : k < ys.length := by omega
        obtain ⟨b, o, rfl, c0, c1, c2⟩ := (RdA_.below HX.out hb).at_ hlt
        obtain ⟨b', o', rfl, c0', c1', c2'⟩ := (RdA_.below HY.out hb).at_ hlt2
        obtain ⟨x, hxx⟩ : ∃ x, xs[k] = x := ⟨_, rfl⟩
        obtain ⟨y, hyy⟩ : ∃ y, ys[k] = y := ⟨_, rfl⟩
        rw [hxx] at c0 c1 c2
        rw [hyy] at c0' c1' c2'
        have EX := Lib.hid hxx
        have EY := Lib.hid hyy
        clear hxx hyy
        have k0 : (0 : Int) ≤ (k : Int) := by omega
        have k1 : (k : Int) < (xs.length : Int) := by omega
        have k2 : (k : Int) < (ys.length : Int) := by omega
        have hcmp := Atom_cmp x y
        obtain ⟨r, hr⟩ : ∃ r, PP (x = y) = r := ⟨_, rfl⟩
        rw [hr] at hcmp
        have HR := Lib.hid hr
        have HB := Lib.hid hb
        obtain ⟨xf, xp, xt⟩ := x
        obtain ⟨yf, yp, yt⟩ := y
        unfold At.val at hcmp
        simp only at c0 c1 c2 c0' c1' c2' hcmp
        clear hr hb
        cases r
        · go_wp2_with fail
          go_quiet (fail)
          clear hcmp
          go_wp2
          go_ret
          refine ⟨ret_pA_ (PP_no fun h => ?_), below_drewN HB.out _⟩
          have h1 : xs[k] = ys[k] := by subst h; rfl
          rw [EX.out, EY.out] at h1
          exact PP_not HR.out h1
        · go_wp2_with fail
          go_quiet (fail)
          clear hcmp
          go_wp2
          go_roundw
          case rel =>
            refine ⟨k + 1, by omega, by go_num, ?_, below_drewN HB.out _⟩
            show _ = _
            rw [List.take_succ_eq_append_getElem hlt, List.take_succ_eq_append_getElem hlt2, HE.out, EX.out, EY.out, PP_of HR.out]
          case measure => simp [intOf]; omega
      · obtain rfl : k = xs.length := by omega
        go_wp2
        go_ret
        refine ⟨ret_pA_ (PP_yes ?_), hb⟩
        have := HE.out
        rw [List.take_of_length_le (Nat.le_refl _), List.take_of_length_le l2] at this
        exact this
  · have b1 : ((xs.length : Int) != (ys.length : Int)) = true := by rw [bne_iff_ne]; omega
    rw [PP_no (fun h => hnm (by rw [h]))]
    clear hnm
    go_enter Try.func52, Try.ntmps52
    go_wp2
    go_ret
    exact ⟨rfl, Below.refl _ _⟩

theorem Filter_cmp (a b : Fl) (w : World) : (Op.equalIn 10000 88 a.val b.val).run Try.prog w = .ok (PP (a = b)) w := by
  have us := Try.underlying9
  have as_ := Try.isAgg9
  have zs := Try.sizeOf9
  have ui := Try.underlying3
  have ai := Try.isAgg3
  have zi := Try.sizeOf3
  have hS : Try.prog.underlying 88 = some (.struct (Try.prog.fieldsOf 88)) := by kernel_rfl
  unfold Fl.val
  rw [show (10000 : Nat) = 9999 + 1 from rfl, run_equalIn_agg w 9999 88 _ _ hS (by kernel_rfl)]
  simp only [Program.fieldsOf, Try.underlying88]
  obtain ⟨pl, po, pr, pn⟩ := a
  obtain ⟨ql, qo, qr, qn⟩ := b
  simp only
  by_cases h0 : pl = ql
  rotate_left
  · rw [PP_no (fun h => h0 (by injection h))]
    have z := toList_no h0
    clear h0
    go_simp
  subst h0
  have z0 := toList_yes (Eq.refl pl)
  by_cases h1 : po = qo
  rotate_left
  · rw [PP_no (fun h => h1 (by injection h))]
    have z : (po == qo) = false := by simpa using h1
    clear h1
    go_simp
  subst h1
  by_cases h2 : pr = qr
  rotate_left
  · rw [PP_no (fun h => h2 (by injection h))]
    have z := toList_no h2
    clear h2
    go_simp
  subst h2
  have z2 := toList_yes (Eq.refl pr)
  by_cases h3 : pn = qn
  rotate_left
  · rw [PP_no (fun h => h3 (by injection h))]
    have z : (pn == qn) = false := by simpa using h3
    clear h3
    go_simp
  subst h3
  rw [PP_yes rfl]
  go_simp

set_option maxRecDepth 100000 in
set_option maxHeartbeats 1600000 in
theorem EqualF_any (A B : Option Addr) (c d : Nat) (xs ys : List Fl) (w : World) (hx : RdF_ w A xs) (hy : RdF_ w B ys) (hn : xs.length ≤ 4294967296) (hm : ys.length ≤ 4294967296) :
    Calls Try.prog 53 #[.slice A xs.length c, .slice B ys.length d] w fun e w' => e = .returned (.bool (PP (xs = ys))) ∧ Below w.heap.size w w' := by
  have HX := Lib.hid hx
  have HY := Lib.hid hy
  clear hx hy
  have eg := Try.eqGuardType88
  by_cases hnm : xs.length = ys.length
  · have b1 : ((xs.length : Int) != (ys.length : Int)) = false := by rw [bne_eq_false_iff_eq]; omega
    have l1 : xs.length ≤ ys.length := by omega
    have l2 : ys.length ≤ xs.length := by omega
    clear hnm
    go_enter Try.func53, Try.ntmps53
    go_wp2
    go_loopw [13] (fun i wr => ∃ k : Nat, k ≤ xs.length ∧ i = .int .i64 k ∧ Hid (xs.take k = ys.take k) ∧ Below w.heap.size w wr) (fun i _ => xs.length - (intOf i).toNat)
    case atStart => exact ⟨0, Nat.zero_le _, rfl, by show _ = _; simp, Below.refl _ _⟩
    case round =>
      obtain ⟨k, hk, rfl, HE, hb⟩ := hrel
      by_cases hlt : k < xs.length
      · have hlt2 : k < ys.length := by omega
        obtain ⟨b, o, rfl, c0, c1, c2, c3⟩ := (RdF_.below HX.out hb).at_ hlt
        obtain ⟨b', o', rfl, c0', c1', c2', c3'⟩ := (RdF_.below HY.out hb).at_ hlt2
        obtain ⟨x, hxx⟩ : ∃ x, xs[k] = x := ⟨_, rfl⟩
        obtain ⟨y, hyy⟩ : ∃ y, ys[k] = y := ⟨_, rfl⟩
        rw [hxx] at c0 c1 c2 c3
        rw [hyy] at c0' c1' c2' c3'
        have EX := Lib.hid hxx
        have EY := Lib.hid hyy
        clear hxx hyy
        have k0 : (0 : Int) ≤ (k : Int) := by omega
        have k1 : (k : Int) < (xs.length : Int) := by omega
        have k2 : (k : Int) < (ys.length : Int) := by omega
        have hcmp := Filter_cmp x y
        obtain ⟨r, hr⟩ : ∃ r, PP (x = y) = r := ⟨_, rfl⟩
        rw [hr] at hcmp
        have HR := Lib.hid hr
        have HB := Lib.hid hb
        obtain ⟨xl, xo, xr, xn⟩ := x
        obtain ⟨yl, yo, yr, yn⟩ := y
        unfold Fl.val at hcmp
        simp only at c0 c1 c2 c3 c0' c1' c2' c3' hcmp
        clear hr hb
        cases r
        · go_wp2_with fail
          go_quiet (fail)
          clear hcmp
          go_wp2
          go_ret
          refine ⟨ret_pF_ (PP_no fun h => ?_), below_drewN HB.out _⟩
          have h1 : xs[k] = ys[k] := by subst h; rfl
          rw [EX.out, EY.out] at h1
          exact PP_not HR.out h1
        · go_wp2_with fail
          go_quiet (fail)
          clear hcmp
          go_wp2
          go_roundw
          case rel =>
            refine ⟨k + 1, by omega, by go_num, ?_, below_drewN HB.out _⟩
            show _ = _
            rw [List.take_succ_eq_append_getElem hlt, List.take_succ_eq_append_getElem hlt2, HE.out, EX.out, EY.out, PP_of HR.out]
          case measure => simp [intOf]; omega
      · obtain rfl : k = xs.length := by omega
        go_wp2
        go_ret
        refine ⟨ret_pF_ (PP_yes ?_), hb⟩
        have := HE.out
        rw [List.take_of_length_le (Nat.le_refl _), List.take_of_length_le l2] at this
        exact this
  · have b1 : ((xs.length : Int) != (ys.length : Int)) = true := by rw [bne_iff_ne]; omega
    rw [PP_no (fun h => hnm (by rw [h]))]
    clear hnm
    go_enter Try.func53, Try.ntmps53
    go_wp2
    go_ret
    exact ⟨rfl, Below.refl _ _⟩
end Go.Proofs.Ytlnphcongijfiaa
