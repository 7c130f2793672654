/- slices.Clone and slices.Reverse at []int: the shelf's contracts laid at this program, on rows of the call's own. Conditions: the length's size. -/
import Derived.Test.YtdikkfhdogkniaaIntS
import Derived.Test.YtdikkfhdogkniaaProg
import Derived.Shelf.Slices.Clone
import Derived.Shelf.Slices.Reverse
import Derived.Lib.OwnBridge
import Derived.Sort.OwnSortedInts
namespace Go.Proofs.Ytdikkfhdogkniaa
open Go.Shelf Go.RowKit Go.Sort
def laysCln_ren : Go.Shelf.Ren := ⟨fun | 15 => 81 | n => n, fun | 22 => 40 | 3 => 3 | 4 => 4 | n => n, fun | n => n⟩
theorem laysCln : Go.Proofs.Lays2.n15 Try.prog laysCln_ren := {
  mixed := by kernel_rfl
  f15 := Try.func81.trans (congrArg some (by kernel_rfl))
  t3 := Try.underlying3
  a3 := Try.isAgg3
  z3 := Try.sizeOf3
  v3 := Try.zeroValue3
  t4 := Try.underlying4
  a4 := Try.isAgg4
  z4 := Try.sizeOf4
  v4 := Try.zeroValue4
  t22 := Try.underlying40
  a22 := Try.isAgg40
  z22 := Try.sizeOf40
  v22 := Try.zeroValue40
  i3 := by kernel_rfl }

theorem grownBy_putI {w : World} {g n : Nat} (d : Array Int) : w.grownBy (putRow (Value.int .i64) (Sort.ahead w n) g 0 d) (some g) := by
  refine ⟨rfl, rfl, rfl, by simp [putRow, mapBlock, Sort.ahead], fun k hk hne => ?_⟩
  have : g ≠ k := fun e => hne (by rw [e])
  simp [putRow, mapBlock, Sort.ahead, Array.getElem?_modify, this]

theorem slices_Clone_rd (A : Option Addr) (c : Nat) (zs : List Int) (w : World) (hx : RdI w A zs.length zs) (hn : zs.length ≤ 4294967296) :
    Calls Try.prog 81 #[.slice A zs.length c] w fun e w' => ∃ K d, e = .returned (.slice K zs.length d) ∧ w'.ownsRow w.heap.size 3 1 (.slice K zs.length d) zs.length (zs.map (Value.int .i64)) ∧ Below w.heap.size w w' := by
  have form : ∀ {w' : World} {v : Value} {n : Nat} {ys : List Value}, w'.ownsRow w.heap.size 3 1 v n ys → ∃ K d, v = .slice K n d := fun h => by
    rcases h.2 with ⟨rfl, rfl⟩ | ⟨g, cap, cur, rfl, _⟩
    · exact ⟨_, _, rfl⟩
    · exact ⟨_, _, rfl⟩
  cases A with
  | none =>
    have h0 : zs.length = 0 := by
      rcases Nat.eq_zero_or_pos zs.length with h | h
      · exact h
      · obtain ⟨ad, h1, _⟩ := hx.at_ h
        cases h1
    obtain rfl : zs = [] := List.eq_nil_of_length_eq_zero h0
    refine (Any.slices_Clone_int_nil laysCln 0 c w).mono ?_
    rintro e w' ⟨rfl, rfl⟩
    exact ⟨none, 0, rfl, World.ownsRow_nil _ _ _ _, Below.refl _ _⟩
  | some ad =>
    rcases Nat.eq_zero_or_pos zs.length with h | h
    · obtain rfl : zs = [] := List.eq_nil_of_length_eq_zero h
      refine (Any.slices_Clone_int_zero laysCln ad c w).mono ?_
      rintro e w' ⟨v', rfl, ho, _, hb⟩
      obtain ⟨K, d, rfl⟩ := form ho
      exact ⟨K, d, rfl, ho, hb⟩
    · obtain ⟨ad', h1, hc⟩ := hx.2 h
      injection h1 with h1
      subst h1
      have hat : ∀ j, j < zs.length → w.cell? (ad.add j) = some (.int .i64 (zs.getD j 0)) := fun j hj => hc j _ (by simp [List.getD, List.getElem?_eq_getElem hj])
      obtain ⟨b, off, spot⟩ := ad
      have hspot : spot = none := by simpa [Addr.add] using World.cell?_spot (hat 0 h)
      subst hspot
      have hp : ∀ j, (⟨b, off, none⟩ : Addr).add j = ⟨b, off + j, none⟩ := by intro j; unfold Addr.add; split <;> simp_all
      refine (Any.slices_Clone_int laysCln b off zs.length c zs w (Nat.le_refl _) (by omega) (fun j hj => by rw [← hp]; exact hat j hj)).mono ?_
      rintro e w' ⟨v', rfl, ho, _, hb⟩
      rw [List.take_of_length_le (Nat.le_refl _)] at ho
      obtain ⟨K, d, rfl⟩ := form ho
      exact ⟨K, d, rfl, ho, hb⟩
end Go.Proofs.Ytdikkfhdogkniaa
