/- The order of rows: reference and program. No conditions but the lengths. -/
import Derived.Test.YtdikkfhdogkniaaCmp
import Derived.Deep.QuietTactic
import Derived.BigQuiet
namespace Go.Proofs.Ytdikkfhdogkniaa
open Go.RowKit

def rowLess (xs ys : List Int) : Bool := decide (cmpI xs ys < 0)
theorem ret_bb {a b : Bool} (h : a = b) : Ending.returned (.bool a) = .returned (.bool b) := by rw [h]

set_option maxRecDepth 100000 in
theorem impl_RowLess_any (A B : Option Addr) (n m c d : Nat) (xs ys : List Int) (w : World) (hx : RdI w A n xs) (hy : RdI w B m ys) (hn : n ≤ 4294967296) (hm : m ≤ 4294967296) :
    Calls Try.prog 37 #[.slice A n c, .slice B m d] w fun e w' => e = .returned (.bool (rowLess xs ys)) ∧ w = w' := by
  have C := Lib.hid (Compare_any A B n m c d xs ys w hx hy hn hm)
  clear hx hy
  go_enter Try.func37, Try.ntmps37
  go_wp2_with (go_at_call 69; refine C.out.mono ?_; rintro e w1 ⟨rfl, rfl⟩)
  go_ret
  exact ⟨rfl, rfl⟩

set_option maxRecDepth 100000 in
set_option maxHeartbeats 800000 in
theorem spec_RowLess_any (A B : Option Addr) (n m c d : Nat) (xs ys : List Int) (w : World) (hx : RdI w A n xs) (hy : RdI w B m ys) (hn : n ≤ 4294967296) (_hm : m ≤ 4294967296) :
    Calls Try.prog 46 #[.slice A n c, .slice B m d] w fun e w' => e = .returned (.bool (rowLess xs ys)) ∧ Below w.heap.size w w' := by
  have HX := Lib.hid hx
  have HY := Lib.hid hy
  clear hx hy
  go_enter Try.func46, Try.ntmps46
  go_wp2
  go_loopw [5] (fun i wr => ∃ k : Nat, k ≤ n ∧ k ≤ m ∧ i = .int .i64 k ∧ Hid (cmpI (xs.drop k) (ys.drop k) = cmpI xs ys) ∧ Below w.heap.size w wr) (fun i _ => n - (intOf i).toNat)
  case atStart => exact ⟨0, Nat.zero_le _, Nat.zero_le _, rfl, rfl, Below.refl _ _⟩
  case round =>
    obtain ⟨k, hk, hkm, rfl, HC, hb⟩ := hrel
    by_cases hlt : k < n
    · by_cases hlm : k < m
      · obtain ⟨ad, rfl, hc⟩ := (RdI.below HX.out hb).at_ hlt
        obtain ⟨bd, rfl, hd⟩ := (RdI.below HY.out hb).at_ hlm
        have hdx := drop_at (l := xs) (k := k) (by have := HX.out.len; omega)
        have hdy := drop_at (l := ys) (k := k) (by have := HY.out.len; omega)
        obtain ⟨x, hxx⟩ : ∃ x, xs.getD k 0 = x := ⟨_, rfl⟩
        obtain ⟨y, hyy⟩ : ∃ y, ys.getD k 0 = y := ⟨_, rfl⟩
        rw [hxx] at hc hdx
        rw [hyy] at hd hdy
        have hf : Hid (cmpI xs ys = if x < y then -1 else if y < x then 1 else cmpI (xs.drop (k + 1)) (ys.drop (k + 1))) := by
          show _ = _
          rw [← HC.out, hdx, hdy]
          rfl
        clear hdx hdy hxx hyy
        have k0 : (0 : Int) ≤ (k : Int) := by omega
        have k1 : (k : Int) < (n : Int) := by omega
        have k2 : (k : Int) < (m : Int) := by omega
        rcases (by omega : x < y ∨ (y < x ∧ ¬ x < y) ∨ (x ≤ y ∧ y ≤ x)) with h | ⟨h, h0⟩ | ⟨h, h0⟩
        · have b1 : (x != y) = true := by rw [bne_iff_ne]; omega
          go_wp2_with fail
          go_quiet (fail)
          go_wp2_with fail
          go_quiet (fail)
          go_wp2
          go_ret
          refine ⟨ret_bb ?_, below_drewN (below_drewN hb _) _⟩
          unfold rowLess
          rw [hf.out, if_pos h]
          simp
        · have b1 : (x != y) = true := by rw [bne_iff_ne]; omega
          go_wp2_with fail
          go_quiet (fail)
          go_wp2_with fail
          go_quiet (fail)
          go_wp2
          go_ret
          refine ⟨ret_bb ?_, below_drewN (below_drewN hb _) _⟩
          unfold rowLess
          rw [hf.out, if_neg (by omega), if_pos h]
          simp; omega
        · have b1 : (x != y) = false := by rw [bne_eq_false_iff_eq]; omega
          go_wp2_with fail
          go_quiet (fail)
          go_wp2
          go_roundw
          case rel => exact ⟨k + 1, by omega, by omega, by go_num, by show _ = _; rw [hf.out, if_neg (by omega), if_neg (by omega)], below_drewN hb _⟩
          case measure => simp [intOf]; omega
      · have b2 : decide ((n : Int) < (m : Int)) = false := by simp; omega
        have b3 : decide (n < m) = false := by simp; omega
        go_wp2
        go_ret
        refine ⟨ret_bb ?_, hb⟩
        unfold rowLess
        rw [← HC.out, drop_at (l := xs) (k := k) (by have := HX.out.len; omega), show ys.drop k = [] from List.drop_eq_nil_of_le (by have := HY.out.len; omega)]
        simp [cmpI]
    · have hkn : xs.drop k = [] := List.drop_eq_nil_of_le (by have := HX.out.len; omega)
      have HKN := Lib.hid hkn
      clear hkn
      by_cases hlm : n < m
      · have b3 : decide (n < m) = true := by simp; omega
        go_wp2
        go_ret
        refine ⟨ret_bb ?_, hb⟩
        unfold rowLess
        rw [← HC.out, HKN.out, drop_at (l := ys) (k := k) (by have := HY.out.len; omega)]
        simp [cmpI]
      · have b3 : decide (n < m) = false := by simp; omega
        go_wp2
        go_ret
        refine ⟨ret_bb ?_, hb⟩
        unfold rowLess
        rw [← HC.out, HKN.out, show ys.drop k = [] from List.drop_eq_nil_of_le (by have := HY.out.len; omega)]
        simp [cmpI]
end Go.Proofs.Ytdikkfhdogkniaa
