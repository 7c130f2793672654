/- Marks in slices of slices of ints: held. Conditions: the counter's bounds. -/
import Derived.Test.YtgpjgigmlgoiiaaIntSS
import Derived.Test.YtgpjgigmlgoiiaaMark
namespace Go.Proofs.Ytgpjgigmlgoiiaa
open Go.RowKit

def cntR (ps : List (List Int)) : Nat := (ps.map fun p => p.length).sum
def markR : Int → List (List Int) → List (List Int)
  | _, [] => []
  | z, p :: ps => marksI z p.length :: markR (z + (p.length : Nat)) ps
theorem markR_len : ∀ (z : Int) (ps : List (List Int)), (markR z ps).length = ps.length
  | _, [] => rfl
  | z, p :: ps => by simp [markR, markR_len]
theorem cntR_next {ps : List (List Int)} {k : Nat} (h : k < ps.length) : cntR (ps.take (k + 1)) = cntR (ps.take k) + ps[k].length := by
  unfold cntR
  rw [List.take_succ_eq_append_getElem h, List.map_append, List.sum_append]
  simp
theorem cntR_le (ps : List (List Int)) (k : Nat) : cntR (ps.take k) ≤ cntR ps := by
  have h : cntR ps = cntR (ps.take k) + cntR (ps.drop k) := by
    unfold cntR
    rw [← List.sum_append, ← List.map_append, List.take_append_drop]
  omega
theorem markR_at : ∀ (z : Int) (ps : List (List Int)) (j : Nat) (h : j < ps.length) (h' : j < (markR z ps).length), (markR z ps)[j] = marksI (z + cntR (ps.take j)) ps[j].length
  | _, [], j, h, _ => absurd h (by simp)
  | z, p :: ps, 0, _, _ => by simp [markR, cntR]
  | z, p :: ps, j + 1, h, h' => by
    have ih := markR_at (z + (p.length : Nat)) ps j (by simpa using h) (by rw [markR_len]; simpa using h)
    simp only [markR, List.getElem_cons_succ, List.take_succ_cons]
    rw [ih]
    congr 1
    simp only [cntR, List.map_cons, List.sum_cons]
    omega
set_option maxRecDepth 100000 in
set_option maxHeartbeats 1600000 in
theorem heldIntSS_any (A : Option Addr) (c : Nat) (ps : List (List Int)) (k : Int) (w : World) (hx : RdSS w A (markR k ps)) (hk : 0 ≤ k ∧ k + cntR ps ≤ 4294967296) (hn : ps.length ≤ 4294967296) :
    Calls Try.prog 26 #[.slice A ps.length c, .int .i64 k] w fun e w' => e = .returned (.int .i64 (k + cntR ps)) ∧ w = w' := by
  have HX := Lib.hid hx
  clear hx
  obtain ⟨hk0, hk1⟩ := hk
  go_enter Try.func26, Try.ntmps26
  go_wp2
  go_loop [1, 5] (fun v i => ∃ (j q : Nat), j ≤ ps.length ∧ v = .int .i64 (k + q) ∧ Hid (q = cntR (ps.take j)) ∧ i = .int .i64 j) (fun _ i => ps.length - (intOf i).toNat)
  case atStart => exact ⟨0, 0, Nat.zero_le _, by simp, Lib.hid rfl, rfl⟩
  case round =>
    obtain ⟨j, q, hj, rfl, HQ, rfl⟩ := hrel
    by_cases hlt : j < ps.length
    · obtain ⟨b, o, K, ck, rfl, c0, hrk⟩ := HX.out.at_ (show j < (markR k ps).length by rw [markR_len]; exact hlt)
      have hqn := cntR_next hlt
      have hql := cntR_le ps (j + 1)
      rw [markR_at k ps j hlt] at c0 hrk
      rw [← HQ.out] at hqn c0 hrk
      obtain ⟨m, hm⟩ : ∃ m, ps[j].length = m := ⟨_, rfl⟩
      rw [hm] at hqn c0 hrk
      rw [marksI_len] at c0 hrk
      obtain ⟨z, hz⟩ : ∃ z, k + (q : Int) = z := ⟨_, rfl⟩
      have hz0 : 0 ≤ z := by omega
      have hz1 : z + m ≤ 4294967296 := by omega
      rw [hz] at hrk ⊢
      have M := Lib.hid (heldIntS_any K m ck z w hrk (by omega) (by omega))
      have HQN := Lib.hid hqn
      have HZ := Lib.hid hz
      have k0 : (0 : Int) ≤ (j : Int) := by omega
      have k1 : (j : Int) < (ps.length : Int) := by omega
      obtain ⟨z2, hz2⟩ : ∃ z2, z + (m : Int) = z2 := ⟨_, rfl⟩
      have hz20 : 0 ≤ z2 := by omega
      rw [hz2] at M
      have HZ2 := Lib.hid hz2
      clear hrk hqn hz hz2 hm
      go_wp2_with fail
      refine M.out.mono ?_
      rintro e w1 ⟨rfl, rfl⟩
      go_wp2
      go_round
      case rel => exact ⟨j + 1, q + m, by omega, by rw [← HZ2.out, ← HZ.out]; congr 1; push_cast; omega, Lib.hid HQN.out.symm, by go_num⟩
      case measure => simp [intOf]; omega
    · obtain rfl : j = ps.length := by omega
      have h2 := HQ.out
      rw [List.take_of_length_le (Nat.le_refl _)] at h2
      subst h2
      go_wp2
      go_ret
      exact ⟨rfl, rfl⟩
end Go.Proofs.Ytgpjgigmlgoiiaa
