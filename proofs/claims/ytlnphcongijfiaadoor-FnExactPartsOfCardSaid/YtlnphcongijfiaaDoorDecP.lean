/- Decimal numerals, plain: as lists of bytes in integers, and the kit's own numeral. No conditions. -/
import Derived.Test.YtlnphcongijfiaaDoorKit
import Derived.Lib.ItoaMem
namespace Go.Proofs.YtlnphcongijfiaaDoor
open Go.RowKit

def dec (u : Nat) : List Int := if h : u < 10 then [48 + (u : Int)] else dec (u / 10) ++ [48 + ((u % 10 : Nat) : Int)]
termination_by u
decreasing_by omega
theorem dec_small {u : Nat} (h : u < 10) : dec u = [48 + (u : Int)] := by rw [dec, dif_pos h]
theorem dec_big {u : Nat} (h : ¬ u < 10) : dec u = dec (u / 10) ++ [48 + ((u % 10 : Nat) : Int)] := by rw [dec, dif_neg h]
def decI (n : Int) : List Int := if n < 0 then 45 :: dec n.natAbs else dec n.toNat
theorem dec_lib (u : Nat) : (dec u).map (fun n => UInt8.ofNat n.toNat) = Lib.decDigits u := by
  induction u using Nat.strongRecOn with
  | _ u ih =>
    by_cases h : u < 10
    · rw [dec_small h, Lib.decDigits, dif_pos h]
      simp only [List.map_cons, List.map_nil]
      rw [show (48 + (u : Int)).toNat = 48 + u by omega]
    · rw [dec_big h, Lib.decDigits, dif_neg h, List.map_append, ih (u / 10) (by omega)]
      simp only [List.map_cons, List.map_nil]
      rw [show (48 + ((u % 10 : Nat) : Int)).toNat = 48 + u % 10 by omega]
theorem itoa_dec (n : Int) : (⟨(Lib.itoa n).toArray⟩ : ByteArray) = strOfNums (decI n) := by
  unfold strOfNums decI Lib.itoa
  by_cases h : n < 0
  · rw [if_pos h, if_pos h, List.map_cons, dec_lib]
    rfl
  · rw [if_neg h, if_neg h, dec_lib]
theorem dec_len : ∀ (k u : Nat), u < 10 ^ (k + 1) → (dec u).length ≤ k + 1
  | 0, u, h => by rw [dec_small (by simpa using h)]; simp
  | k + 1, u, h => by
    by_cases h1 : u < 10
    · rw [dec_small h1]; simp
    · have := dec_len k (u / 10) (by rw [Nat.pow_succ] at h; omega)
      rw [dec_big h1]
      simp
      exact this
theorem dec_ne (u : Nat) : dec u ≠ [] := by
  by_cases h : u < 10
  · rw [dec_small h]; simp
  · rw [dec_big h]; simp
theorem dec_digit (u : Nat) : ∀ z ∈ dec u, 48 ≤ z ∧ z ≤ 57 := by
  induction u using Nat.strongRecOn with
  | _ u ih =>
    intro z hz
    by_cases h : u < 10
    · rw [dec_small h] at hz
      simp at hz
      omega
    · rw [dec_big h] at hz
      rcases List.mem_append.1 hz with hz | hz
      · exact ih (u / 10) (by omega) z hz
      · simp at hz
        omega
theorem decI_byte (n : Int) : ∀ z ∈ decI n, 0 ≤ z ∧ z ≤ 255 := by
  intro z hz
  unfold decI at hz
  split at hz
  · rcases List.mem_cons.1 hz with rfl | hz
    · omega
    · have := dec_digit _ z hz; omega
  · have := dec_digit _ z hz; omega
theorem decI_len (n : Int) (h0 : -9223372036854775808 ≤ n) (h1 : n ≤ 9223372036854775807) : (decI n).length ≤ 20 := by
  unfold decI
  split
  · have := dec_len 18 n.natAbs (by omega)
    simp only [List.length_cons]
    omega
  · have := dec_len 18 n.toNat (by omega)
    omega
theorem decI_ne (n : Int) : decI n ≠ [] := by
  unfold decI
  split
  · simp
  · exact dec_ne _
/-- What has been written of u0 when u is left. -/
def DecAt (u0 u : Nat) (acc : List Int) : Prop := (u = 0 → acc = dec u0) ∧ (0 < u → dec u0 = dec u ++ acc)
theorem DecAt.start {u : Nat} (h : 0 < u) : DecAt u u [] := ⟨fun h0 => by omega, fun _ => by simp⟩
theorem DecAt.next {u0 u : Nat} {acc : List Int} (h : DecAt u0 u acc) (hu : 0 < u) : DecAt u0 (u / 10) ((48 + ((u % 10 : Nat) : Int)) :: acc) := by
  have h1 := h.2 hu
  by_cases h2 : u < 10
  · refine ⟨fun _ => ?_, fun h3 => by omega⟩
    rw [h1, dec_small h2, show u % 10 = u by omega]
    rfl
  · refine ⟨fun h3 => by omega, fun _ => ?_⟩
    rw [h1, dec_big h2]
    simp
end Go.Proofs.YtlnphcongijfiaaDoor
