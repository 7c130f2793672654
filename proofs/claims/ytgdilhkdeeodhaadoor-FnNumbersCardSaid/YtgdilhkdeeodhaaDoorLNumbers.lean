/- FnNumbers: numbers and texts that were written read back. Conditions: strconv's table reads as it was laid. -/
import Derived.Test.YtgdilhkdeeodhaaDoorNumP
import Derived.Test.YtgdilhkdeeodhaaDoorDrawN
import Derived.Test.YtgdilhkdeeodhaaDoorBig
import Derived.Deep.DeepCutAuto
namespace Go.Proofs.YtgdilhkdeeodhaaDoor
open Go.RowKit

/-- A number in range; a text that is not long. -/
def CutNum (w : World) (v : Value) (wx : World) : Prop := ∃ n : Nat, v = .int .i64 n ∧ n ≤ 1000000000 ∧ w = wx
def CutTxt (w : World) (v : Value) (wx : World) : Prop := ∃ t : ByteArray, v = .string t ∧ t.size ≤ 300 ∧ w = wx
theorem varText_yes {n : Nat} (h : n ≤ 1000000000) : varTextOut (n : Int) = .tuple #[.string (strOfNums (vt n)), .bool true] := by
  unfold varTextOut
  rw [if_pos (by omega)]
  simp
theorem short_yes {t : ByteArray} (h : t.size ≤ 300) : shortOut t = .tuple #[.string (strOfNums (vt t.size) ++ t), .bool true] := by
  unfold shortOut
  rw [if_pos (by omega)]
theorem hex_yes {t : ByteArray} (h : t.size ≤ 300) : hexOut t = .tuple #[.string (strOfNums (hxTo t t.size)), .bool true] := by
  unfold hexOut
  rw [if_pos (by omega)]

set_option maxRecDepth 100000 in
set_option maxHeartbeats 6400000 in
theorem FnNumbers_walk (w : World) (v0 : Value) (zs : List Int) (h : SlK w .u8 v0 zs) (ht : TabD w) :
    Calls Tryd.prog 3 #[v0] w fun e w' => e = .returned (.bool true) ∧ Below w.heap.size w w' := by
  obtain ⟨A, n0, c, rfl, hn0, hcode⟩ := code0_of h
  have B := Lib.hid (big_any A n0 c w hn0)
  have HT := Lib.hid ht
  clear h ht
  by_cases hbig : 1048576 < n0
  · rw [show decide (1048576 < n0) = true by simp; omega] at B
    clear hcode
    go_enter Tryd.func3, Tryd.ntmps3
    go_wp2_with fail
    refine B.out.mono ?_
    rintro e w1 ⟨rfl, rfl⟩
    go_wp2
    go_ret
    exact ⟨rfl, Below.refl _ _⟩
  rw [show decide (1048576 < n0) = false by simp; omega] at B
  have HC := Lib.hid (hcode (by omega))
  clear hcode
  go_enter Tryd.func3, Tryd.ntmps3
  go_wp2_with fail
  refine B.out.mono ?_
  rintro e w1 ⟨rfl, rfl⟩
  go_wp2_with fail
  refine (DrawVarText_any A n0 c zs w HC.out).mono ?_
  rintro e w1 ⟨x, rfl, hb1⟩
  have B1 := Lib.hid hb1
  clear hb1 B
  have hor : (0 ≤ x ∧ x ≤ 1000000000) ∨ x < 0 ∨ (0 ≤ x ∧ 1000000000 < x) := by omega
  have hnum : ∃ n : Nat, ((n : Nat) : Int) = 12345 := ⟨12345, rfl⟩
  rcases hor with ⟨hx0, hx1⟩ | hx | ⟨hx, hx'⟩
  case' inl =>
    obtain ⟨n, rfl⟩ : ∃ n : Nat, x = n := ⟨x.toNat, by omega⟩
    have hn : n ≤ 1000000000 := by omega
    clear hnum hx0 hx1
    go_upto_region 6 with fail
  case' inr.inl =>
    go_upto_region 6 with fail
    obtain ⟨n, hn0⟩ := hnum
    rw [← hn0]
    have hn : n ≤ 1000000000 := by omega
    clear hn0 hx
  case' inr.inr =>
    go_upto_region 6 with fail
    obtain ⟨n, hn0⟩ := hnum
    rw [← hn0]
    have hn : n ≤ 1000000000 := by omega
    clear hn0 hx hx'
  all_goals
    have V := Lib.hid (fun w => impl_VarText_any (n : Int) w)
    rw [varText_yes hn] at V
    have hsl := vt_len5 hn
    have hs5 : (strOfNums (vt n)).size ≤ 5 := by rw [strOfNums_size]; exact hsl
    have c1 : ∀ w : World, (Op.stringOp .add ⟨#[120]⟩ (strOfNums (vt n))).run Tryd.prog w = .ok (.string (strOfNums ([120] ++ vt n))) w := fun w => run_dcat (P := Tryd.prog) [120] (vt n) (by simp; omega) w
    have c2 : ∀ w : World, (Op.stringOp .add (strOfNums ([120] ++ vt n)) ⟨#[121]⟩).run Tryd.prog w = .ok (.string (strOfNums (([120] ++ vt n) ++ [121]))) w := fun w => run_dcat (P := Tryd.prog) ([120] ++ vt n) [121] (by simp; omega) w
    have hrv : rvVal (rvOut (strOfNums (([120] ++ vt n) ++ [121])) 1) = .tuple #[.int .i64 n, .int .i64 (((strOfNums (vt n)).size : Int) + 1), .bool true] := by
      have := rvOut_vt (a := [120]) (b := [121]) hn
      rw [List.append_assoc]
      rw [show ((1 : Int)) = (([120] : List Int).length : Int) by rfl, this, strOfNums_size]
      show Value.tuple #[.int .i64 n, .int .i64 (([120].length + (vt n).length : Nat) : Int), .bool true] = _
      congr 4
      simp
      omega
    have R := Lib.hid (fun w => impl_ReadVar_any (strOfNums (([120] ++ vt n) ++ [121])) (by rw [strOfNums_size]; simp; omega) 1 w)
    rw [hrv] at R
    have D := Lib.hid (fun w' (k : Below w.heap.size w w') => impl_Decimal_any (n : Int) (by omega) (by omega) w' (HT.out.below k))
    have RD := Lib.hid (fun w' (k : Below w.heap.size w w') => impl_ReadDecimal_any (strOfNums (decI (n : Int))) (by have := (rd_dec hn).1.1; unfold maxLen; omega) w' (HT.out.below k))
    have hrd : rdVal (strOfNums (decI (n : Int))) = .tuple #[.int .i64 n, .bool true] := by
      unfold rdVal
      rw [(rd_dec hn).2, PP_yes (rd_dec hn).1]
    rw [hrd] at RD
    obtain ⟨s, hs⟩ : ∃ s, strOfNums (vt n) = s := ⟨_, rfl⟩
    obtain ⟨s1, hs1⟩ : ∃ s, strOfNums ([120] ++ vt n) = s := ⟨_, rfl⟩
    obtain ⟨s2, hs2⟩ : ∃ s, strOfNums (([120] ++ vt n) ++ [121]) = s := ⟨_, rfl⟩
    obtain ⟨s3, hs3⟩ : ∃ s, strOfNums (decI (n : Int)) = s := ⟨_, rfl⟩
    rw [hs] at V hs5 c1 R
    rw [hs1] at c1 c2
    rw [hs2] at c2 R
    rw [hs3] at D RD
    clear hs hs1 hs2 hs3 hrv hrd hsl
    go_wp2_with fail
    refine (V.out _).mono ?_
    rintro e w2 ⟨rfl, k2⟩
    have B2 := Lib.hid (below_step B1.out k2)
    clear k2
    go_wp2_with fail
    refine (R.out _).mono ?_
    rintro e w3 ⟨rfl, rfl⟩
    clear c1 c2
    go_wp2_with fail
    refine (D.out _ B2.out).mono ?_
    rintro e w3 ⟨rfl, k3⟩
    have B3 := Lib.hid (below_step B2.out k3)
    clear k3
    go_wp2_with fail
    refine (RD.out _ B3.out).mono ?_
    rintro e w4 ⟨rfl, k4⟩
    have B4 := Lib.hid (below_step B3.out k4)
    have HC4 := Lib.hid (show Code0 w4 A n0 zs from ⟨Rd.below HC.out.rd B4.out, HC.out.le, HC.out.bd⟩)
    clear k4
    go_wp2_with fail
    refine (DrawHex_any A n0 c zs w4 HC4.out).mono ?_
    rintro e w5 ⟨t0, rfl, ht0, k5⟩
    have B5 := Lib.hid (below_step B4.out k5)
    clear k5
    go_upto_if 54 with fail
    go_cut [11] (fun v wx => CutTxt w5 v wx)
    case first =>
      by_cases hx : t0.size ≤ 300
      · have hx' : (t0.size : Int) ≤ 300 := by omega
        go_wp2_with fail
        go_meet
        exact ⟨t0, rfl, hx, rfl⟩
      · have hx' : (300 : Int) < (t0.size : Int) := by omega
        clear hx
        go_wp2_with fail
        go_meet
        exact ⟨⟨#[97, 98, 99]⟩, rfl, by decide, rfl⟩
    case rest =>
      obtain ⟨t, rfl, htl, rfl⟩ := hcut
      have S := Lib.hid (fun w => impl_ShortText_any t (by unfold maxLen; omega) w)
      rw [short_yes htl] at S
      have hsz : (strOfNums (vt t.size) ++ t).size ≤ 4294967296 := by
        rw [ByteArray.size_append, strOfNums_size]
        have := vt_len5 (n := t.size) (by omega)
        omega
      have RS := Lib.hid (fun w => impl_ReadShort_any (strOfNums (vt t.size) ++ t) hsz 0 w)
      rw [rs_short htl] at RS
      unfold rsVal at RS
      have X := Lib.hid (fun w => impl_Hex_any t (by unfold maxLen; omega) w)
      rw [hex_yes htl] at X
      have U := Lib.hid (fun w => impl_Unhex_any (strOfNums (hxTo t t.size)) (by rw [strOfNums_size, hxTo_len t t.size (Nat.le_refl _)]; unfold maxLen; omega) w)
      rw [un_hex htl] at U
      obtain ⟨a, ha⟩ : ∃ a, strOfNums (vt t.size) ++ t = a := ⟨_, rfl⟩
      obtain ⟨x1, hx1⟩ : ∃ a, strOfNums (hxTo t t.size) = a := ⟨_, rfl⟩
      rw [ha] at S RS hsz
      rw [hx1] at X U
      clear ha hx1
      go_wp2_with fail
      refine (S.out _).mono ?_
      rintro e w6 ⟨rfl, k6⟩
      have B6 := Lib.hid (below_step B5.out k6)
      clear k6
      go_wp2_with fail
      refine (RS.out _).mono ?_
      rintro e w7 ⟨rfl, k7⟩
      have B7 := Lib.hid (below_step B6.out k7)
      clear k7
      go_wp2_with fail
      refine (X.out _).mono ?_
      rintro e w8 ⟨rfl, k8⟩
      have B8 := Lib.hid (below_step B7.out k8)
      clear k8
      go_wp2_with fail
      refine (U.out _).mono ?_
      rintro e w9 ⟨rfl, k9⟩
      have B9 := Lib.hid (below_step B8.out k9)
      clear k9
      go_wp2
      go_ret
      exact ⟨rfl, B9.out⟩
end Go.Proofs.YtgdilhkdeeodhaaDoor
