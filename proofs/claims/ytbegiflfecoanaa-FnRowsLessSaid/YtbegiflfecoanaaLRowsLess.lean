/- FnRowsLess: of two drawn rows one is less, or they are equal. No conditions. -/
import Derived.Test.YtbegiflfecoanaaDrawRow
import Derived.Test.YtbegiflfecoanaaRow2
import Derived.Test.YtbegiflfecoanaaBig
namespace Go.Proofs.Ytbegiflfecoanaa
open Go.RowKit

theorem cmpI_swap : ∀ xs ys : List Int, cmpI ys xs = - cmpI xs ys
  | [], [] => rfl
  | [], _ :: _ => rfl
  | _ :: _, [] => rfl
  | a :: r, b :: t => by
    simp only [cmpI]
    rcases (by omega : a < b ∨ a = b ∨ b < a) with h | h | h
    · simp [h, show ¬ b < a by omega]
    · subst h
      simp [Int.lt_irrefl, cmpI_swap r t]
    · simp [h, show ¬ a < b by omega]
theorem cmpI_zero : ∀ xs ys : List Int, cmpI xs ys = 0 ↔ xs = ys
  | [], [] => by simp [cmpI]
  | [], _ :: _ => by simp [cmpI]
  | _ :: _, [] => by simp [cmpI]
  | a :: r, b :: t => by
    simp only [cmpI]
    rcases (by omega : a < b ∨ a = b ∨ b < a) with h | h | h
    · simp [h, show a ≠ b by omega]
    · subst h
      simp [Int.lt_irrefl, cmpI_zero r t]
    · simp [h, show ¬ a < b by omega, show a ≠ b by omega]
theorem three_ways (xs ys : List Int) : (rowLess xs ys = true ∧ rowLess ys xs = false ∧ eqL xs ys = false) ∨ (rowLess xs ys = false ∧ rowLess ys xs = true ∧ eqL xs ys = false) ∨ (rowLess xs ys = false ∧ rowLess ys xs = false ∧ eqL xs ys = true) := by
  have h1 := cmpI_swap xs ys
  have h2 := cmpI_zero xs ys
  unfold rowLess eqL
  rw [h1]
  rcases (by omega : cmpI xs ys < 0 ∨ cmpI xs ys = 0 ∨ 0 < cmpI xs ys) with h | h | h
  · refine .inl ⟨by simp [h], by simp; omega, ?_⟩
    simp only [decide_eq_false_iff_not]
    intro e
    have := h2.2 e
    omega
  · exact .inr (.inr ⟨by simp [h], by simp [h], by simp [h2.1 h]⟩)
  · refine .inr (.inl ⟨by simp; omega, by simp; omega, ?_⟩)
    simp only [decide_eq_false_iff_not]
    intro e
    have := h2.2 e
    omega

theorem RdI_one (w : World) (a : Int) (e : TypeId) : RdI (w.alloc (.cells #[.int .i64 a] e)) (some ⟨w.heap.size, 0, none⟩) 1 [a] := Rd.new w #[.int .i64 a] e rfl rfl

set_option maxHeartbeats 1600000 in
theorem FnRowsLess_walk (w : World) (v0 : Value) (zs : List Int) (h0 : SlK w .u8 v0 zs) :
    Calls Try.prog 13 #[v0] w fun e w' => e = .returned (.bool true) ∧ Below w.heap.size w w' := by
  obtain ⟨A, n, c, rfl, hn, hcode⟩ := code0_of h0
  clear h0
  by_cases hbig : 1048576 < n
  · have B := Lib.hid (big_any A n c w hn)
    rw [show decide (1048576 < n) = true by simp; omega] at B
    clear hcode
    go_enter Try.func13, Try.ntmps13
    go_wp2_with fail
    refine B.out.mono ?_
    rintro e w1 ⟨rfl, rfl⟩
    go_wp2
    go_ret
    exact ⟨rfl, Below.refl _ _⟩
  · have B := Lib.hid (big_any A n c w hn)
    rw [show decide (1048576 < n) = false by simp; omega] at B
    have hc := hcode (by omega)
    clear hcode
    have HC := Lib.hid hc
    clear hc
    go_enter Try.func13, Try.ntmps13
    go_wp2_with fail
    refine B.out.mono ?_
    rintro e w1 ⟨rfl, rfl⟩
    clear B
    go_wp2_with fail
    refine (DrawRowLess_any A n c zs _ HC.out).mono ?_
    rintro e w1 ⟨A1, B1, n1, m1, c1, d1, xs, ys, rfl, hn1, hm1, hx, hy, k1⟩
    clear HC
    have hw := three_ways xs ys
    obtain ⟨r1, hr1⟩ : ∃ r, rowLess xs ys = r := ⟨_, rfl⟩
    obtain ⟨r2, hr2⟩ : ∃ r, rowLess ys xs = r := ⟨_, rfl⟩
    obtain ⟨r3, hr3⟩ : ∃ r, eqL xs ys = r := ⟨_, rfl⟩
    rw [hr1, hr2, hr3] at hw
    have R1 := Lib.hid hr1
    have R2 := Lib.hid hr2
    have R3 := Lib.hid hr3
    have R4 := Lib.hid (by decide : rowLess [1] [1, 0] = true)
    clear hr1 hr2 hr3
    rcases hw with ⟨rfl, rfl, rfl⟩ | ⟨rfl, rfl, rfl⟩ | ⟨rfl, rfl, rfl⟩
    all_goals
      go_wp2_with fail
      refine (impl_RowLess_any _ _ _ _ _ _ xs ys _ hx hy (by omega) (by omega)).mono ?_
      rw [R1.out]
      rintro e w2 ⟨rfl, rfl⟩
      go_wp2_with fail
      refine (impl_RowLess_any _ _ _ _ _ _ ys xs _ hy hx (by omega) (by omega)).mono ?_
      rw [R2.out]
      rintro e w2 ⟨rfl, rfl⟩
      go_wp2_with fail
      refine (sameInts_any _ _ _ _ _ _ xs ys _ hx hy (by omega)).mono ?_
      rw [R3.out]
      rintro e w2 ⟨rfl, k2⟩
      have hx2 := hx.below k2
      have hy2 := hy.below k2
      go_wp2_with fail
      refine (impl_RowLess_any _ _ _ _ _ _ xs ys _ hx2 hy2 (by omega) (by omega)).mono ?_
      rw [R1.out]
      rintro e w3 ⟨rfl, rfl⟩
      go_wp2_with fail
      refine (spec_RowLess_any _ _ _ _ _ _ xs ys _ hx2 hy2 (by omega) (by omega)).mono ?_
      rw [R1.out]
      rintro e w3 ⟨rfl, k3⟩
      go_wp2_with fail
      refine (impl_RowLess_any _ _ 1 2 _ _ [1] [1, 0] _ (RdI.alloc (RdI_one w3 1 _) _) (RdI.two _ _ _ _ (by simp)) (by omega) (by omega)).mono ?_
      rw [R4.out]
      rintro e w4 ⟨rfl, rfl⟩
      go_wp2
      go_ret
      have k4 := below_step (below_step k1 k2) k3
      exact ⟨rfl, (k4.alloc k4.size _).alloc (by have := k4.size; simp; omega) _⟩
end Go.Proofs.Ytbegiflfecoanaa
