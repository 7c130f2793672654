/- The checksum, as plain numbers. No program in sight. -/
import Derived.Laws.BitsAllLaws
import Derived.WalkKit
namespace Go.Proofs.Ytlnphcongijfiaa
open Go.RowKit

def crcStep (x : Nat) : Nat := if x % 2 = 1 then (x / 2) ^^^ 3558460437 else x / 2
def crcN : Nat → Nat → Nat
  | 0, x => x
  | k + 1, x => crcStep (crcN k x)
def crcByte (x b : Nat) : Nat := crcN 8 (x ^^^ b)
def crcTo (s : ByteArray) (x : Nat) : Nat → Nat
  | 0 => x
  | k + 1 => crcByte (crcTo s x k) (s.data.toList.getD k 0).toNat

theorem crcStep_lt {x : Nat} (h : x < 4294967296) : crcStep x < 4294967296 := by
  unfold crcStep
  split
  · exact Nat.xor_lt_two_pow (n := 32) (by omega) (by omega)
  · omega
theorem crcN_lt : ∀ (k : Nat) {x : Nat}, x < 4294967296 → crcN k x < 4294967296
  | 0, _, h => h
  | k + 1, _, h => crcStep_lt (crcN_lt k h)
theorem xor_lt {x b : Nat} (h : x < 4294967296) (hb : b < 4294967296) : x ^^^ b < 4294967296 := Nat.xor_lt_two_pow (n := 32) h hb
theorem byte_lt (c : UInt8) : c.toNat < 4294967296 := by have := c.toNat_lt; omega
theorem crcTo_lt (s : ByteArray) {x : Nat} (h : x < 4294967296) : ∀ k, crcTo s x k < 4294967296
  | 0 => h
  | k + 1 => crcN_lt 8 (xor_lt (crcTo_lt s h k) (byte_lt _))
theorem getD_byte (s : ByteArray) (k : Nat) (h : k < s.size) : s.data.toList.getD k 0 = s[k] := by
  rw [List.getD_eq_getElem?_getD, List.getElem?_eq_getElem (by simpa using h)]
  rfl
theorem crcTo_succ (s : ByteArray) (x k : Nat) (h : k < s.size) : crcTo s x (k + 1) = crcN 8 (crcTo s x k ^^^ s[k].toNat) := by
  show crcByte _ _ = _
  rw [getD_byte s k h]
  rfl
theorem crcStep_odd {x : Nat} (h : x % 2 = 1) : crcStep x = (x / 2) ^^^ 3558460437 := if_pos h
theorem crcStep_even {x : Nat} (h : ¬ x % 2 = 1) : crcStep x = x / 2 := if_neg h
theorem val_u32 {a b : Int} (h : a = b) : Value.int .u32 a = .int .u32 b := by rw [h]
theorem xor_val {x b : Nat} (h : x < 4294967296) (hb : b < 4294967296) : bits .xor .u32 (x : Int) (b : Int) = ((x ^^^ b : Nat) : Int) := u32_xor_nat x b h hb
theorem and_val {x : Nat} (h : x < 4294967296) : bits .and .u32 (x : Int) 1 = ((x % 2 : Nat) : Int) := by
  rw [show (1 : Int) = ((1 : Nat) : Int) from rfl, u32_and_nat x 1 h (by omega), nat_mask1]
theorem ret_u32 {a b : Nat} (h : a = b) : Ending.returned (.int .u32 (a : Int)) = .returned (.int .u32 (b : Int)) := by rw [h]
theorem xor_val' {x b : Nat} (h : x < 4294967296) (hb : b < 4294967296) : bits .xor .u32 (x : Int) ((b : Int) % 4294967296) = ((x ^^^ b : Nat) : Int) := by
  rw [Int.emod_eq_of_lt (by omega) (by omega)]
  exact u32_xor_nat x b h hb
theorem step_odd {z : Nat} (ho : z % 2 = 1) (h : z < 4294967296) : bits .xor .u32 ((z : Int) / 2) 3558460437 = ((crcStep z : Nat) : Int) := by
  rw [crcStep_odd ho, show (z : Int) / 2 = ((z / 2 : Nat) : Int) by omega, show (3558460437 : Int) = ((3558460437 : Nat) : Int) from rfl]
  exact u32_xor_nat _ _ (by omega) (by omega)
theorem step_even {z : Nat} (ho : ¬ z % 2 = 1) : (z : Int) / 2 = ((crcStep z : Nat) : Int) := by
  rw [crcStep_even ho]; omega
end Go.Proofs.Ytlnphcongijfiaa
