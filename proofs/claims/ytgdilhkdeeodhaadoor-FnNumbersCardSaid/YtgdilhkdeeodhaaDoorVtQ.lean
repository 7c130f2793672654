/- Numbers that were written read back (the parts of VtL and VtRead that want no builder). Plain; no conditions. -/
import Derived.Test.YtgdilhkdeeodhaaDoorVar
import Derived.Test.YtgdilhkdeeodhaaDoorReadVar
namespace Go.Proofs.YtgdilhkdeeodhaaDoor
open Go.RowKit

theorem vt_byte : ∀ (n : Nat), ∀ z ∈ vt n, 0 ≤ z ∧ z ≤ 255 := by
  intro n
  induction n using Nat.strongRecOn with
  | _ n ih =>
    intro z hz
    by_cases h : 127 < n
    · rw [vt_big h] at hz
      rcases List.mem_cons.1 hz with rfl | hz
      · omega
      · exact ih (n / 128) (by omega) z hz
    · rw [vt_small h] at hz
      simp at hz
      omega
theorem vt_len5 {n : Nat} (h : n ≤ 1000000000) : (vt n).length ≤ 5 := vt_len 4 n (by omega)
theorem vt_ne (n : Nat) : vt n ≠ [] := by
  by_cases h : 127 < n
  · rw [vt_big h]; simp
  · rw [vt_small h]; simp
theorem strOfNums_app (a b : List Int) : strOfNums a ++ strOfNums b = strOfNums (a ++ b) := by
  apply ByteArray.ext
  simp [strOfNums, ByteArray.data_append]
theorem byteAt_str {L : List Int} {j : Nat} (h : j < L.length) (hb : 0 ≤ L[j] ∧ L[j] ≤ 255) : (byteAt (strOfNums L) j : Int) = L[j] := by
  unfold byteAt
  rw [strOfNums_data, List.getD_eq_getElem?_getD, List.getElem?_map, List.getElem?_eq_getElem h]
  simp only [Option.map_some, Option.getD_some, UInt8.toNat_ofNat']
  omega
theorem byteAt_mid {a m b : List Int} {j : Nat} (h : j < m.length) (hb : ∀ z ∈ m, 0 ≤ z ∧ z ≤ 255) : (byteAt (strOfNums (a ++ (m ++ b))) (a.length + j) : Int) = m[j] := by
  have hl : a.length + j < (a ++ (m ++ b)).length := by simp; omega
  have e : (a ++ (m ++ b))[a.length + j] = m[j] := by
    rw [List.getElem_append_right (by omega)]
    simp only [Nat.add_sub_cancel_left]
    rw [List.getElem_append_left h]
  rw [byteAt_str hl (by rw [e]; exact hb _ (List.getElem_mem h)), e]
theorem rvGo_vt (s : ByteArray) (a : Nat) : ∀ (f k m : Nat), (vt m).length ≤ f → (∀ j (hj : j < (vt m).length), (byteAt s (a + k + j) : Int) = (vt m)[j]) → a + k + (vt m).length ≤ s.size →
    vTo s a k + 128 ^ k * m ≤ 1000000000 → (m = 0 → k = 0) → rvGo s a f k = some (vTo s a k + 128 ^ k * m, a + k + (vt m).length)
  | 0, k, m, h, _, _, _, _ => absurd h (by have := vt_ne m; have : 0 < (vt m).length := List.length_pos_iff.2 this; omega)
  | f + 1, k, m, h, hb, hs, hn, hz => by
    by_cases hbig : 127 < m
    · have hv := vt_big hbig
      have h0 := hb 0 (by rw [hv]; simp)
      simp only [hv, List.getElem_cons_zero, Nat.add_zero] at h0
      have hlen : (vt m).length = (vt (m / 128)).length + 1 := by rw [hv]; simp
      rw [rvGo_on (by omega) (by omega)]
      have hvt : vTo s a (k + 1) + 128 ^ (k + 1) * (m / 128) = vTo s a k + 128 ^ k * m := by
        rw [vTo, show byteAt s (a + k) % 128 = m % 128 by omega, Nat.pow_succ, Nat.mul_comm (m % 128), Nat.mul_assoc, Nat.add_assoc, ← Nat.mul_add]
        congr 2
        omega
      rw [rvGo_vt s a f (k + 1) (m / 128) (by omega) (fun j hj => ?_) (by omega) (by rw [hvt]; exact hn) (fun h => by omega), hvt]
      · congr 2
        omega
      · have := hb (j + 1) (by omega)
        simp only [hv, List.getElem_cons_succ] at this
        rw [← this]
        congr 2
        omega
    · have hv := vt_small hbig
      have h0 := hb 0 (by rw [hv]; simp)
      simp only [hv, List.getElem_cons_zero, Nat.add_zero] at h0
      have hlen : (vt m).length = 1 := by rw [hv]; rfl
      have hvt : vTo s a (k + 1) = vTo s a k + 128 ^ k * m := by
        rw [vTo, show byteAt s (a + k) % 128 = m by omega, Nat.mul_comm m]
      rw [rvGo_yes (by omega) (by omega) (by rw [hvt]; exact hn) (fun h => by have := hz (by omega); omega), hvt, hlen]
theorem rvOut_vt {a b : List Int} {n : Nat} (hn : n ≤ 1000000000) : rvOut (strOfNums (a ++ (vt n ++ b))) a.length = some (n, a.length + (vt n).length) := by
  unfold rvOut
  have hs : (strOfNums (a ++ (vt n ++ b))).size = a.length + ((vt n).length + b.length) := by rw [strOfNums_size]; simp
  rw [if_pos ⟨by omega, by omega⟩]
  have := rvGo_vt (strOfNums (a ++ (vt n ++ b))) a.length 5 0 n (vt_len5 hn) (fun j hj => by
    have := byteAt_mid (a := a) (m := vt n) (b := b) hj (vt_byte n)
    simpa using this) (by omega) (by simpa [vTo] using hn) (fun _ => rfl)
  simpa [vTo] using this
end Go.Proofs.YtgdilhkdeeodhaaDoor
