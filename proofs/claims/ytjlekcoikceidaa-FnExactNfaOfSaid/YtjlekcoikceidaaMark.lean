/- mark.. and held..: what the laws write into results and arguments, and ask for again. No conditions but the bounds. -/
import Derived.Test.YtjlekcoikceidaaGMem
import Derived.Test.YtjlekcoikceidaaIntS
namespace Go.Proofs.Ytjlekcoikceidaa
open Go.RowKit

def marksI (k : Int) (n : Nat) : List Int := (List.range n).map (fun (i : Nat) => k + (i : Int))
theorem marksI_len (k : Int) (n : Nat) : (marksI k n).length = n := by simp [marksI]
theorem marksI_succ (k : Int) (n : Nat) : marksI k (n + 1) = marksI k n ++ [k + (n : Int)] := by simp [marksI, List.range_succ]
theorem marksI_at (k : Int) (n j : Nat) (h : j < n) : (marksI k n).getD j 0 = k + (j : Int) := by
  simp [marksI, List.getD, h]
theorem grown_alloc (w : World) (o : Obj) (row : Option Nat) : w.grownBy (w.alloc o) row :=
  ⟨rfl, rfl, rfl, by simp, fun i hi _ => Below.heap_alloc w o i hi⟩
/-- What a marking of a row of ints leaves. -/
def MarkedI (w : World) (base : Nat) (A : Option Addr) (n c : Nat) (k : Int) (e : Ending) (w' : World) : Prop :=
  e = .returned (.int .i64 (k + n)) ∧ w'.ownsRow base 3 1 (.slice A n c) n ((marksI k n).map (Value.int .i64)) ∧ w.grownBy w' (Value.slice A n c).ownBlock

set_option maxRecDepth 100000 in
set_option maxHeartbeats 800000 in
theorem markIntS_any (base : Nat) (A : Option Addr) (n c : Nat) (xs : List Value) (k : Int) (w : World) (hown : w.ownsRow base 3 1 (.slice A n c) n xs) (hk : 0 ≤ k ∧ k ≤ 4294967296) (hn : n ≤ 4294967296) :
    Calls Try.prog 46 #[.slice A n c, .int .i64 k] w (MarkedI w base A n c k) := by
  have H0 := Lib.hid hown
  clear hown
  obtain ⟨hk0, hk1⟩ := hk
  go_enter Try.func46, Try.ntmps46
  go_wp2
  go_loopw [1, 5] (fun v i wr => ∃ (j : Nat) (ys : List Value), j ≤ n ∧ v = .int .i64 (k + j) ∧ i = .int .i64 j ∧ ys.length ≤ n ∧ n ≤ ys.length ∧ Hid (ys.take j = (marksI k j).map (Value.int .i64)) ∧ wr.ownsRow base 3 1 (.slice A n c) n ys ∧ w.grownBy wr (Value.slice A n c).ownBlock) (fun _ i _ => n - (intOf i).toNat)
  case atStart =>
    have := H0.out.1
    exact ⟨0, xs, Nat.zero_le _, by simp, rfl, by omega, by omega, rfl, H0.out, World.grownBy.refl w _⟩
  case round =>
    obtain ⟨j, ys, hj, rfl, rfl, hy1, hy2, HT, hown, hb⟩ := hrel
    by_cases hlt : j < n
    · obtain ⟨g, cap, hv, _, _⟩ := hown.form (by omega)
      injection hv with e1 e2 e3
      subst e1 e3
      have hco := hown.cellAt j (by omega)
      rw [List.getElem?_eq_getElem (show j < ys.length by omega)] at hco
      have hfo := hown.frozenAt j
      obtain ⟨u, hu⟩ : ∃ u, ys[j]'(by omega) = u := ⟨_, rfl⟩
      rw [hu] at hco
      clear hu
      have HS := Lib.hid (hown.stored j (.int .i64 (k + j)))
      have HB := Lib.hid hb
      clear hown hb
      go_wp2
      go_roundw
      case rel =>
        refine ⟨j + 1, ys.set j (.int .i64 (k + j)), by omega, by go_num; try omega, by go_num, by simp; omega, by simp; omega, ?_, HS.out.1, HB.out.trans HS.out.2⟩
        show _ = _
        rw [List.take_succ_eq_append_getElem (by simp; omega), List.take_set_of_le (by omega), HT.out, marksI_succ]
        simp
      case measure => simp [intOf]; omega
    · obtain rfl : j = n := by omega
      have e1 : ys = (marksI k j).map (Value.int .i64) := by
        have := HT.out
        rw [List.take_of_length_le (by omega)] at this
        exact this
      subst e1
      have HO := Lib.hid hown
      have HB := Lib.hid hb
      clear hown hb
      go_wp2
      go_ret
      exact ⟨rfl, HO.out, HB.out⟩

def markE (k : Int) (i : Nat) : Ed := ⟨k + 3 * (i : Int), (k + 3 * (i : Int) + 1) % 256, k + 3 * (i : Int) + 1 + 1⟩
def marksE (k : Int) (n : Nat) : List Ed := (List.range n).map (markE k)
theorem marksE_len (k : Int) (n : Nat) : (marksE k n).length = n := by simp [marksE]
theorem marksE_succ (k : Int) (n : Nat) : marksE k (n + 1) = marksE k n ++ [markE k n] := by simp [marksE, List.range_succ]
theorem marksE_at (k : Int) (n j : Nat) (h : j < (marksE k n).length) : (marksE k n)[j] = markE k j := by simp [marksE]
end Go.Proofs.Ytjlekcoikceidaa
