/- toIntS copies a slice of ints into a new one; eqIntS, sameInts compare two. No conditions but the lengths. -/
import Derived.Test.YtjlekcoikceidaaMem
import Derived.Deep.QuietTactic
import Derived.BigQuiet
namespace Go.Proofs.Ytjlekcoikceidaa
open Go.RowKit

theorem Try.infoInt : (Try.prog.info? 3).map (fun i => (i.zero, i.size, i.bytes)) = some (some (.int .i64 0), 1, 8) := by kernel_rfl

/-- A new slice that owns the ints zs. -/
def NewI (w0 w : World) (v : Value) (zs : List Int) : Prop := w.ownsRow w0.heap.size 3 1 v zs.length (zs.map (Value.int .i64))

/-- What a call that makes a slice of ints leaves. -/
def MadeI (w : World) (zs : List Int) (e : Ending) (w' : World) : Prop := ∃ A c, e = .returned (.slice A zs.length c) ∧ w'.ownsRow w.heap.size 3 1 (.slice A zs.length c) zs.length (zs.map (Value.int .i64)) ∧ Below w.heap.size w w'

theorem MadeI.rd {w w' : World} {zs : List Int} {A : Option Addr} {c : Nat} (h : w'.ownsRow w.heap.size 3 1 (.slice A zs.length c) zs.length (zs.map (Value.int .i64))) : RdI w' A zs.length zs := Rd.of_own h

theorem map_take_set (zs : List Int) (ys : List Value) (k : Nat) (hk : k < zs.length) (hl : ys.length = zs.length) (h : ys.take k = (zs.take k).map (Value.int .i64)) :
    (ys.set k (.int .i64 (zs.getD k 0))).take (k + 1) = (zs.take (k + 1)).map (Value.int .i64) := by
  rw [List.take_succ_eq_append_getElem (by simp; omega), List.take_succ_eq_append_getElem (l := zs) hk, List.map_append, List.take_set_of_le (by omega), h]
  simp [List.getD, List.getElem?_eq_getElem hk]

set_option maxRecDepth 100000 in
set_option maxHeartbeats 800000 in
theorem toIntS_any (A : Option Addr) (n c : Nat) (zs : List Int) (w : World) (hx : RdI w A n zs) (hn : n ≤ 4294967296) :
    Calls Try.prog 48 #[.slice A n c] w (MadeI w zs) := by
  obtain ⟨i0, hi, hz0, hz1, hz2⟩ := info_parts Try.infoInt
  have hlen := hx.len
  subst hlen
  have HX := Lib.hid hx
  clear hx
  go_enter Try.func48, Try.ntmps48
  go_wp2_with (first
    | (at_make
       refine wpList_make_full _ rfl _ _ 47 rfl w.heap.size 3 i0 (.int .i64 0) 1 Try.underlying47 hi hz0 hz1 .i64 .i64 (zs.length : Int) (zs.length : Int) zs.length rfl rfl rfl rfl (by rw [hz2]; omega) (by unfold maxLen; omega) (Nat.le_refl _) ?_
       intro w0 hown0 hg0
       have hb0 := (Below.refl w.heap.size w).grown hg0 (Nat.le_refl _) (fun g hg => by cases hg)))
  go_loopw [4] (fun i wr => ∃ (k : Nat) (ys : List Value), k ≤ zs.length ∧ i = .int .i64 k ∧ ys.length ≤ zs.length ∧ zs.length ≤ ys.length ∧ Hid (ys.take k = (zs.take k).map (Value.int .i64)) ∧ wr.ownsRow w.heap.size 3 1 (.slice (some ⟨w.heap.size, 0, none⟩) zs.length zs.length) zs.length ys ∧ Below w.heap.size w wr) (fun i _ => zs.length - (intOf i).toNat)
  case atStart =>
    have := hown0.1
    exact ⟨0, _, Nat.zero_le _, rfl, by omega, by omega, rfl, hown0, hb0⟩
  case round =>
    obtain ⟨k, ys, hk, rfl, hy1, hy2, HT, hown, hb⟩ := hrel
    clear hown0 hg0 hb0
    by_cases hlt : k < zs.length
    · have hrd := RdI.below HX.out hb
      obtain ⟨ad, rfl, hc⟩ := hrd.at_ hlt
      clear hrd
      have hco := hown.cellAt k (by omega)
      have hys : ys[k]? = some (ys[k]'(by omega)) := List.getElem?_eq_getElem (by omega)
      rw [hys] at hco
      have hfo := hown.frozenAt k
      clear hys
      obtain ⟨u, hu⟩ : ∃ u, ys[k]'(by omega) = u := ⟨_, rfl⟩
      rw [hu] at hco
      clear hu
      obtain ⟨z, hz⟩ : ∃ z, zs.getD k 0 = z := ⟨_, rfl⟩
      rw [hz] at hc
      have HZ := Lib.hid hz
      clear hz
      have hst := hown.stored k (.int .i64 z)
      have HS := Lib.hid hst
      clear hst
      go_wp2
      go_roundw
      case rel =>
        refine ⟨k + 1, ys.set k (.int .i64 z), by omega, by go_num, by simp; omega, by simp; omega, ?_, HS.out.1, hb.grown HS.out.2 hb.size (fun g hg => by cases hg; exact Nat.le_refl _)⟩
        show _ = _
        rw [← HZ.out]
        exact map_take_set zs ys k hlt (by omega) HT.out
      case measure => simp [intOf]; omega
    · obtain rfl : k = zs.length := by omega
      have e1 : ys = zs.map (Value.int .i64) := by
        have := HT.out
        rw [List.take_of_length_le (by omega), List.take_of_length_le (Nat.le_refl _)] at this
        exact this
      subst e1
      go_wp2
      go_ret
      exact ⟨_, _, rfl, hown, hb⟩

def eqL (xs ys : List Int) : Bool := decide (xs = ys)
theorem eqL_yes {xs ys : List Int} (h : xs = ys) : eqL xs ys = true := by simp [eqL, h]
theorem eqL_no {xs ys : List Int} (h : ¬ xs = ys) : eqL xs ys = false := by simp [eqL, h]
theorem take_next {l : List Int} {k : Nat} (h : k < l.length) : l.take (k + 1) = l.take k ++ [l.getD k 0] := by
  rw [List.take_succ_eq_append_getElem h]
  simp [List.getD, List.getElem?_eq_getElem h]
theorem ret_b {a b : Bool} (h : a = b) : Ending.returned (.bool a) = .returned (.bool b) := by rw [h]

set_option maxRecDepth 100000 in
set_option maxHeartbeats 800000 in
theorem eqIntS_any (A B : Option Addr) (n m c d : Nat) (xs ys : List Int) (w : World) (hx : RdI w A n xs) (hy : RdI w B m ys) (hn : n ≤ 4294967296) :
    Calls Try.prog 61 #[.slice A n c, .slice B m d] w fun e w' => e = .returned (.bool (eqL xs ys)) ∧ Below w.heap.size w w' := by
  have l1 := hx.len
  have l2 := hy.len
  by_cases hnm : n = m
  · subst hnm
    have HX := Lib.hid hx
    have HY := Lib.hid hy
    have L1 := Lib.hid l1
    have L2 := Lib.hid l2
    clear hx hy l1 l2
    go_enter Try.func61, Try.ntmps61
    go_wp2
    go_loopw [5] (fun i wr => ∃ k : Nat, k ≤ n ∧ i = .int .i64 k ∧ Hid (xs.take k = ys.take k) ∧ Below w.heap.size w wr) (fun i _ => n - (intOf i).toNat)
    case atStart => exact ⟨0, Nat.zero_le _, rfl, by show _ = _; simp, Below.refl _ _⟩
    case round =>
      obtain ⟨k, hk, rfl, HE, hb⟩ := hrel
      by_cases hlt : k < n
      · obtain ⟨ad, rfl, hc⟩ := (RdI.below HX.out hb).at_ hlt
        obtain ⟨bd, rfl, hd⟩ := (RdI.below HY.out hb).at_ hlt
        obtain ⟨x, hxx⟩ : ∃ x, xs.getD k 0 = x := ⟨_, rfl⟩
        obtain ⟨y, hyy⟩ : ∃ y, ys.getD k 0 = y := ⟨_, rfl⟩
        rw [hxx] at hc
        rw [hyy] at hd
        have EX := Lib.hid hxx
        have EY := Lib.hid hyy
        clear hxx hyy
        have k0 : (0 : Int) ≤ (k : Int) := by omega
        have k1 : (k : Int) < (n : Int) := by omega
        by_cases hxy : x = y
        · have b1 : (x != y) = false := by rw [bne_eq_false_iff_eq]; exact hxy
          have HXY := Lib.hid hxy
          clear hxy
          go_wp2_with fail
          go_quiet (fail)
          go_wp2
          go_roundw
          case rel => exact ⟨k + 1, by omega, by go_num, by show _ = _; rw [take_next (by have := L1.out; omega), take_next (l := ys) (by have := L2.out; omega), HE.out, EX.out, EY.out, HXY.out], below_drewN hb _⟩
          case measure => simp [intOf]; omega
        · have b1 : (x != y) = true := by rw [bne_iff_ne]; exact hxy
          have HXY := Lib.hid hxy
          clear hxy
          go_wp2_with fail
          go_quiet (fail)
          go_wp2
          go_ret
          exact ⟨ret_b (eqL_no fun h => HXY.out (by rw [← EX.out, ← EY.out, h])).symm, below_drewN hb _⟩
      · obtain rfl : k = n := by omega
        go_wp2
        go_ret
        refine ⟨ret_b (eqL_yes ?_).symm, hb⟩
        have := HE.out
        rw [List.take_of_length_le (by have := L1.out; omega), List.take_of_length_le (by have := L2.out; omega)] at this
        exact this
  · have b1 : ((n : Int) != (m : Int)) = true := by rw [bne_iff_ne]; omega
    have hne : eqL xs ys = false := eqL_no fun h => hnm (by rw [← l1, ← l2, h])
    rw [hne]
    clear hx hy l1 l2 hne
    go_enter Try.func61, Try.ntmps61
    go_wp2
    go_ret
    exact ⟨rfl, Below.refl _ _⟩

end Go.Proofs.Ytjlekcoikceidaa
