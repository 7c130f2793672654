/- slices.Sort and slices.Compact on a row of ints of the call's own. No conditions but the length. -/
import Derived.Test.YtnhanakeijplcaaShelfI
import Derived.Test.YtnhanakeijplcaaIntS
import Derived.Lib.OwnBridge
import Derived.Sort.OwnSortedInts
namespace Go.Proofs.Ytnhanakeijplcaa
open Go.RowKit Go.Sort

def sortI (zs : List Int) : List Int := zs.mergeSort fun x y => decide (x ≤ y)
theorem sortI_len (zs : List Int) : (sortI zs).length = zs.length := List.length_mergeSort zs

theorem slices_Sort_own (base : Nat) (A : Option Addr) (c : Nat) (zs : List Int) (w : World) (hown : w.ownsRow base 3 1 (.slice A zs.length c) zs.length (zs.map (Value.int .i64))) (hn : zs.length ≤ 4294967296) :
    Calls Try.prog 61 #[.slice A zs.length c] w fun e w' => e = .returned (.tuple #[]) ∧ w'.ownsRow base 3 1 (.slice A zs.length c) (sortI zs).length ((sortI zs).map (Value.int .i64)) ∧ w.grownBy w' (Value.slice A zs.length c).ownBlock := by
  rcases hown.2 with ⟨h0, _⟩ | ⟨g, cap, cur, hv, hbase, hb, h1, h2, h3, h4⟩
  · injection h0 with e1 e2 e3
    subst e1 e3
    obtain rfl : zs = [] := List.eq_nil_of_length_eq_zero e2
    refine (shelf_Sort_int_none none 0 w).mono ?_
    rintro e w' ⟨rfl, rfl⟩
    exact ⟨rfl, by simpa [sortI] using hown, World.grownBy.refl _ _⟩
  · injection hv with e1 _ e3
    subst e1 e3
    rw [Nat.mul_one] at h4
    refine (shelf_Sort_int g 0 c zs w (holds_of_blockI hb h4) (Array.getElem?_eq_some_iff.1 hb).1 (by omega)).mono ?_
    rintro e w' ⟨rfl, n, os, rfl⟩
    refine ⟨rfl, ?_, grownBy_sortedI _⟩
    rw [sortI_len]
    exact ownsRow_sortedI (ts := sortI zs) (sortI_len zs) hbase hb h1 h2 h3

theorem grownBy_putI {w : World} {g n : Nat} (d : Array Int) : w.grownBy (putRow (Value.int .i64) (Sort.ahead w n) g 0 d) (some g) := by
  refine ⟨rfl, rfl, rfl, by simp [putRow, mapBlock, Sort.ahead], fun k hk hne => ?_⟩
  have : g ≠ k := fun e => hne (by rw [e])
  simp [putRow, mapBlock, Sort.ahead, Array.getElem?_modify, this]

theorem slices_Compact_own (base : Nat) (A : Option Addr) (c : Nat) (zs : List Int) (w : World) (hown : w.ownsRow base 3 1 (.slice A zs.length c) zs.length (zs.map (Value.int .i64))) (hn : zs.length ≤ 4294967296) :
    Calls Try.prog 63 #[.slice A zs.length c] w fun e w' => e = .returned (.slice A (Lib.compact zs).length c) ∧ w'.ownsRow base 3 1 (.slice A (Lib.compact zs).length c) (Lib.compact zs).length ((Lib.compact zs).map (Value.int .i64)) ∧ w.grownBy w' (Value.slice A zs.length c).ownBlock ∧ (Lib.compact zs).length ≤ c := by
  rcases hown.2 with ⟨h0, _⟩ | ⟨g, cap, cur, hv, hbase, hb, h1, h2, h3, h4⟩
  · injection h0 with e1 e2 e3
    subst e1 e3
    obtain rfl : zs = [] := List.eq_nil_of_length_eq_zero e2
    refine (shelf_Compact_int_empty none 0 w).mono ?_
    rintro e w' ⟨rfl, rfl⟩
    exact ⟨rfl, hown, World.grownBy.refl _ _, Nat.le_refl _⟩
  · injection hv with e1 _ e3
    subst e1 e3
    rw [Nat.mul_one] at h4
    have hle := Lib.compact_length_le zs
    refine (shelf_Compact_int g 0 c zs w (holds_of_blockI hb h4) (by omega) h1).mono ?_
    rintro e w' ⟨rfl, q, rfl⟩
    have hc := Lib.ownsRow_putRow (q := q) (k := (Lib.compact zs).length) (ys := Lib.compact zs ++ List.replicate (zs.length - (Lib.compact zs).length) 0) hown (by simp; omega) hle
    rw [List.take_left] at hc
    exact ⟨rfl, hc, grownBy_putI _, by omega⟩
end Go.Proofs.Ytnhanakeijplcaa
