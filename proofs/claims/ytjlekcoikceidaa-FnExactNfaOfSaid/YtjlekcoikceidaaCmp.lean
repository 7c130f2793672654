/- slices.Compare over ints: the order of lists. No conditions but the lengths. -/
import Derived.Test.YtjlekcoikceidaaMem
namespace Go.Proofs.Ytjlekcoikceidaa
open Go.RowKit

def cmp1 (a b : Int) : Int := if a < b then -1 else if b < a then 1 else 0
def cmpI : List Int → List Int → Int
  | [], [] => 0
  | [], _ :: _ => -1
  | _ :: _, [] => 1
  | a :: r, b :: t => if a < b then -1 else if b < a then 1 else cmpI r t

set_option maxRecDepth 100000 in
theorem isNaN_any (a : Int) (w : World) : Calls Try.prog 67 #[.int .i64 a] w fun e w' => e = .returned (.bool false) ∧ w = w' := by
  go_enter Try.func67, Try.ntmps67
  go_wp2
  go_ret
  simp
set_option maxRecDepth 100000 in
theorem Compare1_any (a b : Int) (w : World) : Calls Try.prog 60 #[.int .i64 a, .int .i64 b] w fun e w' => e = .returned (.int .i64 (cmp1 a b)) ∧ w = w' := by
  rcases (by omega : a < b ∨ (b < a ∧ ¬ a < b) ∨ (a ≤ b ∧ b ≤ a)) with h | ⟨h, h0⟩ | ⟨h, h0⟩
  · rw [show cmp1 a b = -1 from if_pos h]
    go_enter Try.func60, Try.ntmps60
    go_wp2_with (go_at_call 67; refine (isNaN_any _ _).mono ?_; rintro e w1 ⟨rfl, rfl⟩)
    go_ret
    exact ⟨rfl, rfl⟩
  · rw [show cmp1 a b = 1 by unfold cmp1; rw [if_neg h0, if_pos h]]
    go_enter Try.func60, Try.ntmps60
    go_wp2_with (go_at_call 67; refine (isNaN_any _ _).mono ?_; rintro e w1 ⟨rfl, rfl⟩)
    go_ret
    exact ⟨rfl, rfl⟩
  · rw [show cmp1 a b = 0 by unfold cmp1; rw [if_neg (by omega), if_neg (by omega)]]
    go_enter Try.func60, Try.ntmps60
    go_wp2_with (go_at_call 67; refine (isNaN_any _ _).mono ?_; rintro e w1 ⟨rfl, rfl⟩)
    go_ret
    exact ⟨rfl, rfl⟩

theorem drop_at {l : List Int} {k : Nat} (h : k < l.length) : l.drop k = l.getD k 0 :: l.drop (k + 1) := by
  rw [List.drop_eq_getElem_cons h]
  simp [List.getD, List.getElem?_eq_getElem h]
theorem val_i64 {a b : Int} (h : a = b) : Ending.returned (.int .i64 a) = .returned (.int .i64 b) := by rw [h]

set_option maxRecDepth 100000 in
set_option maxHeartbeats 800000 in
theorem Compare_any (A B : Option Addr) (n m c d : Nat) (xs ys : List Int) (w : World) (hx : RdI w A n xs) (hy : RdI w B m ys) (hn : n ≤ 4294967296) (_hm : m ≤ 4294967296) :
    Calls Try.prog 43 #[.slice A n c, .slice B m d] w fun e w' => e = .returned (.int .i64 (cmpI xs ys)) ∧ w = w' := by
  have HX := Lib.hid hx
  have HY := Lib.hid hy
  clear hx hy
  go_enter Try.func43, Try.ntmps43
  go_wp2
  go_loop [11] (fun i => ∃ k : Nat, k ≤ n ∧ k ≤ m ∧ i = .int .i64 k ∧ Hid (cmpI (xs.drop k) (ys.drop k) = cmpI xs ys)) (fun i => n - (intOf i).toNat)
  case atStart => exact ⟨0, Nat.zero_le _, Nat.zero_le _, rfl, rfl⟩
  case round =>
    obtain ⟨k, hk, hkm, rfl, HC⟩ := hrel
    by_cases hlt : k < n
    · obtain ⟨ad, rfl, hc⟩ := HX.out.at_ hlt
      have hdx := drop_at (l := xs) (k := k) (by have := HX.out.len; omega)
      have HDX := Lib.hid hdx
      clear hdx
      by_cases hlm : k < m
      · obtain ⟨bd, rfl, hd⟩ := HY.out.at_ hlm
        have hdy := drop_at (l := ys) (k := k) (by have := HY.out.len; omega)
        have HDY := Lib.hid hdy
        clear hdy
        obtain ⟨x, hxx⟩ : ∃ x, xs.getD k 0 = x := ⟨_, rfl⟩
        obtain ⟨y, hyy⟩ : ∃ y, ys.getD k 0 = y := ⟨_, rfl⟩
        rw [hxx] at hc
        rw [hyy] at hd
        have EX := Lib.hid hxx
        have EY := Lib.hid hyy
        clear hxx hyy
        have hf : Hid (cmpI xs ys = if x < y then -1 else if y < x then 1 else cmpI (xs.drop (k + 1)) (ys.drop (k + 1))) := by
          show _ = _
          rw [← HC.out, HDX.out, HDY.out, EX.out, EY.out]
          rfl
        rcases (by omega : x < y ∨ (y < x ∧ ¬ x < y) ∨ (x ≤ y ∧ y ≤ x)) with h | ⟨h, h0⟩ | ⟨h, h0⟩
        · have e1 : cmp1 x y = -1 := if_pos h
          have E1 := Lib.hid e1
          clear e1
          go_wp2_with (go_at_call 60; refine (Compare1_any _ _ _).mono ?_; rw [E1.out]; rintro e w1 ⟨rfl, rfl⟩)
          go_ret
          exact ⟨val_i64 (by rw [hf.out, if_pos h]), rfl⟩
        · have e1 : cmp1 x y = 1 := by unfold cmp1; rw [if_neg h0, if_pos h]
          have E1 := Lib.hid e1
          clear e1
          go_wp2_with (go_at_call 60; refine (Compare1_any _ _ _).mono ?_; rw [E1.out]; rintro e w1 ⟨rfl, rfl⟩)
          go_ret
          exact ⟨val_i64 (by rw [hf.out, if_neg (by omega), if_pos h]), rfl⟩
        · have e1 : cmp1 x y = 0 := by unfold cmp1; rw [if_neg (by omega), if_neg (by omega)]
          have E1 := Lib.hid e1
          clear e1
          go_wp2_with (go_at_call 60; refine (Compare1_any _ _ _).mono ?_; rw [E1.out]; rintro e w1 ⟨rfl, rfl⟩)
          go_round
          case rel => exact ⟨k + 1, by omega, by omega, by go_num, by show _ = _; rw [hf.out, if_neg (by omega), if_neg (by omega)]⟩
          case measure => simp [intOf]; omega
      · go_wp2
        go_ret
        refine ⟨val_i64 ?_, rfl⟩
        rw [← HC.out, HDX.out, show ys.drop k = [] from List.drop_eq_nil_of_le (by have := HY.out.len; omega)]
        rfl
    · have hkn : xs.drop k = [] := List.drop_eq_nil_of_le (by have := HX.out.len; omega)
      have HKN := Lib.hid hkn
      clear hkn
      by_cases hlm : n < m
      · go_wp2
        go_ret
        refine ⟨val_i64 ?_, rfl⟩
        rw [← HC.out, HKN.out, drop_at (l := ys) (k := k) (by have := HY.out.len; omega)]
        rfl
      · go_wp2
        go_ret
        refine ⟨val_i64 ?_, rfl⟩
        rw [← HC.out, HKN.out, show ys.drop k = [] from List.drop_eq_nil_of_le (by have := HY.out.len; omega)]
        rfl
end Go.Proofs.Ytjlekcoikceidaa
