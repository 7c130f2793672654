/- mark.. and held..: what the laws write into results and arguments, and ask for again. No conditions but the bounds. -/
import Derived.Test.YtgpjgigmlgoiiaaGMem
import Derived.Test.YtgpjgigmlgoiiaaIntS
namespace Go.Proofs.Ytgpjgigmlgoiiaa
open Go.RowKit

def marksI (k : Int) (n : Nat) : List Int := (List.range n).map (fun (i : Nat) => k + (i : Int))
theorem marksI_len (k : Int) (n : Nat) : (marksI k n).length = n := by simp [marksI]
theorem marksI_succ (k : Int) (n : Nat) : marksI k (n + 1) = marksI k n ++ [k + (n : Int)] := by simp [marksI, List.range_succ]
theorem marksI_at (k : Int) (n j : Nat) (h : j < n) : (marksI k n).getD j 0 = k + (j : Int) := by
  simp [marksI, List.getD, h]
theorem grown_alloc (w : World) (o : Obj) (row : Option Nat) : w.grownBy (w.alloc o) row :=
  ⟨rfl, rfl, rfl, by simp, fun i hi _ => Below.heap_alloc w o i hi⟩
/-- What a marking of a row of ints leaves. -/
def MarkedI (w : World) (base : Nat) (A : Option Addr) (n c : Nat) (k : Int) (e : Ending) (w' : World) : Prop :=
  e = .returned (.int .i64 (k + n)) ∧ w'.ownsRow base 3 1 (.slice A n c) n ((marksI k n).map (Value.int .i64)) ∧ w.grownBy w' (Value.slice A n c).ownBlock

set_option maxRecDepth 100000 in
set_option maxHeartbeats 800000 in
theorem markIntS_any (base : Nat) (A : Option Addr) (n c : Nat) (xs : List Value) (k : Int) (w : World) (hown : w.ownsRow base 3 1 (.slice A n c) n xs) (hk : 0 ≤ k ∧ k ≤ 4294967296) (hn : n ≤ 4294967296) :
    Calls Try.prog 36 #[.slice A n c, .int .i64 k] w (MarkedI w base A n c k) := by
  have H0 := Lib.hid hown
  clear hown
  obtain ⟨hk0, hk1⟩ := hk
  go_enter Try.func36, Try.ntmps36
  go_wp2
  go_loopw [1, 5] (fun v i wr => ∃ (j : Nat) (ys : List Value), j ≤ n ∧ v = .int .i64 (k + j) ∧ i = .int .i64 j ∧ ys.length ≤ n ∧ n ≤ ys.length ∧ Hid (ys.take j = (marksI k j).map (Value.int .i64)) ∧ wr.ownsRow base 3 1 (.slice A n c) n ys ∧ w.grownBy wr (Value.slice A n c).ownBlock) (fun _ i _ => n - (intOf i).toNat)
  case atStart =>
    have := H0.out.1
    exact ⟨0, xs, Nat.zero_le _, by simp, rfl, by omega, by omega, rfl, H0.out, World.grownBy.refl w _⟩
  case round =>
    obtain ⟨j, ys, hj, rfl, rfl, hy1, hy2, HT, hown, hb⟩ := hrel
    by_cases hlt : j < n
    · obtain ⟨g, cap, hv, _, _⟩ := hown.form (by omega)
      injection hv with e1 e2 e3
      subst e1 e3
      have hco := hown.cellAt j (by omega)
      rw [List.getElem?_eq_getElem (show j < ys.length by omega)] at hco
      have hfo := hown.frozenAt j
      obtain ⟨u, hu⟩ : ∃ u, ys[j]'(by omega) = u := ⟨_, rfl⟩
      rw [hu] at hco
      clear hu
      have HS := Lib.hid (hown.stored j (.int .i64 (k + j)))
      have HB := Lib.hid hb
      clear hown hb
      go_wp2
      go_roundw
      case rel =>
        refine ⟨j + 1, ys.set j (.int .i64 (k + j)), by omega, by go_num; try omega, by go_num, by simp; omega, by simp; omega, ?_, HS.out.1, HB.out.trans HS.out.2⟩
        show _ = _
        rw [List.take_succ_eq_append_getElem (by simp; omega), List.take_set_of_le (by omega), HT.out, marksI_succ]
        simp
      case measure => simp [intOf]; omega
    · obtain rfl : j = n := by omega
      have e1 : ys = (marksI k j).map (Value.int .i64) := by
        have := HT.out
        rw [List.take_of_length_le (by omega)] at this
        exact this
      subst e1
      have HO := Lib.hid hown
      have HB := Lib.hid hb
      clear hown hb
      go_wp2
      go_ret
      exact ⟨rfl, HO.out, HB.out⟩

set_option maxRecDepth 100000 in
set_option maxHeartbeats 800000 in
theorem heldIntS_any (A : Option Addr) (n c : Nat) (k : Int) (w : World) (hx : RdI w A n (marksI k n)) (hk : 0 ≤ k ∧ k ≤ 4294967296) (hn : n ≤ 4294967296) :
    Calls Try.prog 37 #[.slice A n c, .int .i64 k] w fun e w' => e = .returned (.int .i64 (k + n)) ∧ w = w' := by
  have HX := Lib.hid hx
  clear hx
  obtain ⟨hk0, hk1⟩ := hk
  go_enter Try.func37, Try.ntmps37
  go_wp2
  go_loop [1, 5] (fun v i => ∃ (j : Nat), j ≤ n ∧ v = .int .i64 (k + j) ∧ i = .int .i64 j) (fun _ i => n - (intOf i).toNat)
  case atStart => exact ⟨0, Nat.zero_le _, by simp, rfl⟩
  case round =>
    obtain ⟨j, hj, rfl, rfl⟩ := hrel
    by_cases hlt : j < n
    · obtain ⟨ad, rfl, hc⟩ := HX.out.at_ hlt
      rw [marksI_at k n j hlt] at hc
      have hne : ((k + (j : Int)) != (k + (j : Int))) = false := by simp
      go_wp2
      go_round
      case rel => refine ⟨j + 1, by omega, by go_num; try omega, by go_num⟩
      case measure => simp [intOf]; omega
    · obtain rfl : j = n := by omega
      go_wp2
      go_ret
      exact ⟨rfl, rfl⟩
def markE (k : Int) (i : Nat) : Ed := ⟨k + 3 * (i : Int), (k + 3 * (i : Int) + 1) % 256, k + 3 * (i : Int) + 1 + 1⟩
def marksE (k : Int) (n : Nat) : List Ed := (List.range n).map (markE k)
theorem marksE_len (k : Int) (n : Nat) : (marksE k n).length = n := by simp [marksE]
theorem marksE_succ (k : Int) (n : Nat) : marksE k (n + 1) = marksE k n ++ [markE k n] := by simp [marksE, List.range_succ]
theorem marksE_at (k : Int) (n j : Nat) (h : j < (marksE k n).length) : (marksE k n)[j] = markE k j := by simp [marksE]
/-- What a marking of a row of edges leaves. -/
def MarkedE (w : World) (base : Nat) (A : Option Addr) (n c : Nat) (k : Int) (e : Ending) (w' : World) : Prop :=
  e = .returned (.int .i64 (k + 3 * n)) ∧ w'.ownsRow base 119 3 (.slice A n c) n (edCells (marksE k n)) ∧ w.grownBy w' (Value.slice A n c).ownBlock

set_option maxRecDepth 100000 in
set_option maxHeartbeats 1600000 in
theorem markEdgeS_any (base : Nat) (A : Option Addr) (n c : Nat) (xs : List Value) (k : Int) (w : World) (hown : w.ownsRow base 119 3 (.slice A n c) n xs) (hk : 0 ≤ k ∧ k ≤ 4294967296) (hn : n ≤ 4294967296) :
    Calls Try.prog 66 #[.slice A n c, .int .i64 k] w (MarkedE w base A n c k) := by
  have H0 := Lib.hid hown
  clear hown
  obtain ⟨hk0, hk1⟩ := hk
  go_enter Try.func66, Try.ntmps66
  go_wp2
  go_loopw [1, 5] (fun v i wr => ∃ (j : Nat) (ys : List Value), j ≤ n ∧ v = .int .i64 (k + 3 * j) ∧ i = .int .i64 j ∧ ys.length ≤ n * 3 ∧ n * 3 ≤ ys.length ∧ Hid (ys.take (j * 3) = edCells (marksE k j)) ∧ wr.ownsRow base 119 3 (.slice A n c) n ys ∧ w.grownBy wr (Value.slice A n c).ownBlock) (fun _ i _ => n - (intOf i).toNat)
  case atStart =>
    have := H0.out.1
    exact ⟨0, xs, Nat.zero_le _, by simp, rfl, by omega, by omega, rfl, H0.out, World.grownBy.refl w _⟩
  case round =>
    obtain ⟨j, ys, hj, rfl, rfl, hy1, hy2, HT, hown, hb⟩ := hrel
    by_cases hlt : j < n
    · obtain ⟨g, cap, hv, _, _⟩ := hown.form (by omega)
      injection hv with e1 e2 e3
      subst e1 e3
      obtain ⟨u0, u1, u2, d0, d1, d2, f0, f1, f2⟩ := own3 hown hlt
      obtain ⟨z, hz⟩ : ∃ z, k + 3 * (j : Int) = z := ⟨_, rfl⟩
      have hz0 : 0 ≤ z := by omega
      have hz1 : z ≤ 17179869184 := by omega
      rw [hz]
      have HZ := Lib.hid hz
      clear hz
      have HS := Lib.hid (own3_stored hown j (.int .i64 z) (.int .u8 ((z + 1) % 256)) (.int .i64 (z + 1 + 1)))
      have HB := Lib.hid hb
      clear hown hb
      go_wp2
      go_roundw
      case rel =>
        refine ⟨j + 1, _, by omega, ?_, by go_num, ?_, ?_, ?_, HS.out.1, HB.out.trans HS.out.2⟩
        · have := HZ.out
          rw [← this]
          congr 1
          omega
        · simp; omega
        · simp; omega
        · show _ = _
          rw [take_set3 ys j _ _ _ (by omega), HT.out, marksE_succ, edCells_append]
          have := HZ.out
          simp [markE, edCells, this]
      case measure => simp [intOf]; omega
    · obtain rfl : j = n := by omega
      have e1 : ys = edCells (marksE k j) := by
        have := HT.out
        rw [List.take_of_length_le (by omega)] at this
        exact this
      subst e1
      have HO := Lib.hid hown
      have HB := Lib.hid hb
      clear hown hb
      go_wp2
      go_ret
      exact ⟨rfl, HO.out, HB.out⟩

/-- A marked row of edges reads as its marks. -/
theorem rdE_marks {w : World} {A : Option Addr} {n c base : Nat} {k : Int} (h : w.ownsRow base 119 3 (.slice A n c) n (edCells (marksE k n))) : RdE w A (marksE k n) := by
  have := Rd.of_own h
  unfold RdE
  rw [marksE_len]
  exact this

set_option maxRecDepth 100000 in
theorem markGraph_any (base : Nat) (s : Int) (A : Option Addr) (n c : Nat) (xs : List Value) (k : Int) (w : World) (hown : w.ownsRow base 119 3 (.slice A n c) n xs) (hk : 0 ≤ k ∧ k ≤ 4294967296) (hn : n ≤ 4294967296) :
    Calls Try.prog 24 #[.agg #[.int .i64 s, .slice A n c], .int .i64 k] w (MarkedE w base A n c k) := by
  have C := Lib.hid (markEdgeS_any base A n c xs k (w.alloc (.cells #[.int .i64 s, .slice A n c] 45)) (hown.alloc _) hk hn)
  clear hown
  go_enter Try.func24, Try.ntmps24
  go_wp2_with fail
  refine C.out.mono ?_
  rintro e w1 ⟨rfl, ho, hg⟩
  go_wp2
  go_ret
  exact ⟨rfl, ho, (grown_alloc w _ _).trans hg⟩

end Go.Proofs.Ytgpjgigmlgoiiaa
