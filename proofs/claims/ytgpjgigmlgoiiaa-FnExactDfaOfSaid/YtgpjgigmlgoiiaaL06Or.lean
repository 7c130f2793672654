/- spec.l06Or: a row of bools is or-ed with another. Conditions: the lengths. -/
import Derived.Test.YtgpjgigmlgoiiaaBoolS
import Derived.Test.YtgpjgigmlgoiiaaMark
import Derived.Deep.RegionLaw
namespace Go.Proofs.Ytgpjgigmlgoiiaa
open Go.RowKit

def bls (bs : List Bool) : List Value := bs.map Value.bool
def orTo (as_ bs : List Bool) (k : Nat) : List Bool := (List.range as_.length).map (fun i => if i < k then (as_.getD i false || bs.getD i false) else as_.getD i false)
theorem orTo_len (as_ bs : List Bool) (k : Nat) : (orTo as_ bs k).length = as_.length := by simp [orTo]
theorem orTo_zero (as_ bs : List Bool) : orTo as_ bs 0 = as_ := by
  apply List.ext_getElem (by simp [orTo])
  intro i h1 h2
  simp [orTo, List.getD, h2]
theorem orTo_at {as_ bs : List Bool} {k : Nat} (h : k < as_.length) : (bls (orTo as_ bs k))[k]? = some (.bool (as_.getD k false)) := by
  simp [bls, orTo, h]
theorem orTo_set {as_ bs : List Bool} {k : Nat} : (bls (orTo as_ bs k)).set k (.bool (as_.getD k false || bs.getD k false)) = bls (orTo as_ bs (k + 1)) := by
  apply List.ext_getElem (by simp [bls, orTo])
  intro i h1 h2
  rw [List.getElem_set]
  simp only [bls, orTo, List.getElem_map, List.getElem_range]
  by_cases e : k = i
  · subst e; rw [if_pos rfl, if_pos (by omega)]
  · rw [if_neg e]
    by_cases h3 : i < k
    · rw [if_pos h3, if_pos (by omega)]
    · rw [if_neg h3, if_neg (by omega)]

set_option maxRecDepth 100000 in
set_option maxHeartbeats 3200000 in
theorem l06Or_any (base : Nat) (A B : Option Addr) (c d : Nat) (as_ bs : List Bool) (w : World) (hown : w.ownsRow base 4 1 (.slice A as_.length c) as_.length (bls as_)) (hy : ∀ w', w.grownBy w' (Value.slice A as_.length c).ownBlock → RdB w' B bs.length bs) (hl : bs.length = as_.length) (hn : as_.length ≤ 4294967296) :
    Calls Try.prog 93 #[.slice A as_.length c, .slice B bs.length d] w fun e w' => e = .returned (.tuple #[]) ∧ w'.ownsRow base 4 1 (.slice A as_.length c) as_.length (bls (orTo as_ bs as_.length)) ∧ w.grownBy w' (Value.slice A as_.length c).ownBlock := by
  have H0 := Lib.hid (show w.ownsRow base 4 1 (.slice A as_.length c) as_.length (bls (orTo as_ bs 0)) by rw [orTo_zero]; exact hown)
  have HY := Lib.hid hy
  clear hown hy
  go_enter Try.func93, Try.ntmps93
  go_wp2
  go_loopw [4] (fun i wr => ∃ (k : Nat), k ≤ as_.length ∧ i = .int .i64 k ∧ wr.ownsRow base 4 1 (.slice A as_.length c) as_.length (bls (orTo as_ bs k)) ∧ w.grownBy wr (Value.slice A as_.length c).ownBlock) (fun i _ => as_.length - (intOf i).toNat)
  case atStart => exact ⟨0, Nat.zero_le _, rfl, H0.out, World.grownBy.refl w _⟩
  case round =>
    clear H0
    obtain ⟨k, hk, rfl, hown, hg⟩ := hrel
    have HO := Lib.hid hown
    have HG := Lib.hid hg
    by_cases hlt : k < as_.length
    · obtain ⟨ad2, rfl, y0⟩ := (HY.out _ hg).at_ (show k < bs.length by omega)
      obtain ⟨g, cap, hv, _, _⟩ := hown.form (by omega)
      injection hv with e1 e2 e3
      subst e1 e3
      have hco := hown.cellAt k (by omega)
      rw [orTo_at hlt] at hco
      have hfo := hown.frozenAt k
      have hst := orTo_set (as_ := as_) (bs := bs) (k := k)
      obtain ⟨x, hx⟩ : ∃ x, as_.getD k false = x := ⟨_, rfl⟩
      obtain ⟨y, hyy⟩ : ∃ y, bs.getD k false = y := ⟨_, rfl⟩
      rw [hx] at hco hst
      rw [hyy] at y0 hst
      have HST := Lib.hid hst
      have k0 : (0 : Int) ≤ (k : Int) := by omega
      have k1 : (k : Int) < (as_.length : Int) := by omega
      have k2 : (k : Int) < (bs.length : Int) := by omega
      clear hx hyy hst hown hg
      have HS := Lib.hid (HO.out.stored k (.bool (x || y)))
      cases x
      all_goals
        go_wp2
        go_roundw
        case rel =>
          have h1 := HS.out.1
          rw [HST.out] at h1
          exact ⟨k + 1, by omega, by go_num, by first | exact h1 | simpa using h1, by first | exact HG.out.trans HS.out.2 | simpa using HG.out.trans HS.out.2⟩
        case measure => simp [intOf]; omega
    · obtain rfl : k = as_.length := by omega
      clear hown hg
      go_wp2
      go_end0
      exact ⟨rfl, HO.out, HG.out⟩
end Go.Proofs.Ytgpjgigmlgoiiaa
