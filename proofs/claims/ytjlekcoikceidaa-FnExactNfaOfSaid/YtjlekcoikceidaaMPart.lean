/- The checksum, as plain numbers. No program in sight. SumMore: both functions return the same number. No conditions but the sum's range. The checksum of a text, in four bytes; SumOf. No conditions. The variable-length form of a number: both functions that write it return the same bytes. Conditions: the number is not negative and at most 10^9. OwnerOf: both functions return the same. No conditions. The cursor over the bytes of a draw: it hands out numbers in their range, and turns nothing but itself. No conditions but the length. PartOf: both functions return the same graph. No conditions but the labels' range and the size of a length. -/
import Derived.Test.YtjlekcoikceidaaKit
import Derived.Test.YtjlekcoikceidaaIn
import Derived.Test.YtjlekcoikceidaaMem
import Derived.Test.YtjlekcoikceidaaSGraphOk
import Derived.Test.YtjlekcoikceidaaApp
import Derived.Laws.BitsAllLaws
import Derived.WalkKit
import Derived.Deep.RegionWith
import Derived.Deep.QuietTactic
import Derived.BigQuiet
import Derived.Deep.RegionLaw
namespace Go.Proofs.Ytjlekcoikceidaa
open Go.RowKit

def crcStep (x : Nat) : Nat := if x % 2 = 1 then (x / 2) ^^^ 3558460437 else x / 2
def crcN : Nat → Nat → Nat
  | 0, x => x
  | k + 1, x => crcStep (crcN k x)
def crcByte (x b : Nat) : Nat := crcN 8 (x ^^^ b)
def crcTo (s : ByteArray) (x : Nat) : Nat → Nat
  | 0 => x
  | k + 1 => crcByte (crcTo s x k) (s.data.toList.getD k 0).toNat

theorem crcStep_lt {x : Nat} (h : x < 4294967296) : crcStep x < 4294967296 := by
  unfold crcStep
  split
  · exact Nat.xor_lt_two_pow (n := 32) (by omega) (by omega)
  · omega
theorem crcN_lt : ∀ (k : Nat) {x : Nat}, x < 4294967296 → crcN k x < 4294967296
  | 0, _, h => h
  | k + 1, _, h => crcStep_lt (crcN_lt k h)
theorem xor_lt {x b : Nat} (h : x < 4294967296) (hb : b < 4294967296) : x ^^^ b < 4294967296 := Nat.xor_lt_two_pow (n := 32) h hb
theorem byte_lt (c : UInt8) : c.toNat < 4294967296 := by have := c.toNat_lt; omega
theorem crcTo_lt (s : ByteArray) {x : Nat} (h : x < 4294967296) : ∀ k, crcTo s x k < 4294967296
  | 0 => h
  | k + 1 => crcN_lt 8 (xor_lt (crcTo_lt s h k) (byte_lt _))
theorem getD_byte (s : ByteArray) (k : Nat) (h : k < s.size) : s.data.toList.getD k 0 = s[k] := by
  rw [List.getD_eq_getElem?_getD, List.getElem?_eq_getElem (by simpa using h)]
  rfl
theorem crcTo_succ (s : ByteArray) (x k : Nat) (h : k < s.size) : crcTo s x (k + 1) = crcN 8 (crcTo s x k ^^^ s[k].toNat) := by
  show crcByte _ _ = _
  rw [getD_byte s k h]
  rfl
theorem crcStep_odd {x : Nat} (h : x % 2 = 1) : crcStep x = (x / 2) ^^^ 3558460437 := if_pos h
theorem crcStep_even {x : Nat} (h : ¬ x % 2 = 1) : crcStep x = x / 2 := if_neg h
theorem val_u32 {a b : Int} (h : a = b) : Value.int .u32 a = .int .u32 b := by rw [h]
theorem xor_val {x b : Nat} (h : x < 4294967296) (hb : b < 4294967296) : bits .xor .u32 (x : Int) (b : Int) = ((x ^^^ b : Nat) : Int) := u32_xor_nat x b h hb
theorem and_val {x : Nat} (h : x < 4294967296) : bits .and .u32 (x : Int) 1 = ((x % 2 : Nat) : Int) := by
  rw [show (1 : Int) = ((1 : Nat) : Int) from rfl, u32_and_nat x 1 h (by omega), nat_mask1]
theorem ret_u32 {a b : Nat} (h : a = b) : Ending.returned (.int .u32 (a : Int)) = .returned (.int .u32 (b : Int)) := by rw [h]
theorem xor_val' {x b : Nat} (h : x < 4294967296) (hb : b < 4294967296) : bits .xor .u32 (x : Int) ((b : Int) % 4294967296) = ((x ^^^ b : Nat) : Int) := by
  rw [Int.emod_eq_of_lt (by omega) (by omega)]
  exact u32_xor_nat x b h hb
theorem step_odd {z : Nat} (ho : z % 2 = 1) (h : z < 4294967296) : bits .xor .u32 ((z : Int) / 2) 3558460437 = ((crcStep z : Nat) : Int) := by
  rw [crcStep_odd ho, show (z : Int) / 2 = ((z / 2 : Nat) : Int) by omega, show (3558460437 : Int) = ((3558460437 : Nat) : Int) from rfl]
  exact u32_xor_nat _ _ (by omega) (by omega)
theorem step_even {z : Nat} (ho : ¬ z % 2 = 1) : (z : Int) / 2 = ((crcStep z : Nat) : Int) := by
  rw [crcStep_even ho]; omega
end Go.Proofs.Ytjlekcoikceidaa
namespace Go.Proofs.Ytjlekcoikceidaa
open Go.RowKit
end Go.Proofs.Ytjlekcoikceidaa
namespace Go.Proofs.Ytjlekcoikceidaa
open Go.RowKit

def crc (s : ByteArray) : Nat := crcTo s 4294967295 s.size
theorem crc_lt (s : ByteArray) : crc s < 4294967296 := crcTo_lt s (by omega) _
def four (x : Nat) : List Int := [(x : Int) / 16777216, (x : Int) / 65536 % 256, (x : Int) / 256 % 256, (x : Int) % 256]

theorem run_string_new {P : Program} (w : World) (src dst e : TypeId) (hs : P.underlying src = some (.slice e)) (he : P.underlying e = some (.int .u8)) (hd : P.underlying dst = some .string) (a b c d : Int) :
    (convert src dst (.slice (some ⟨w.heap.size, 0, none⟩) 4 4)).run P (w.alloc (.cells #[.int .u8 a, .int .u8 b, .int .u8 c, .int .u8 d] e)) = .ok (.string (strOfNums [a, b, c, d])) (w.alloc (.cells #[.int .u8 a, .int .u8 b, .int .u8 c, .int .u8 d] e)) := by
  refine run_convert_bytes_arg _ src e hs he w.heap.size 0 4 4 [a, b, c, d] rfl (fun i hi => ?_) dst hd
  have h : (w.alloc (.cells #[.int .u8 a, .int .u8 b, .int .u8 c, .int .u8 d] e)).heap[w.heap.size]? = some (.cells #[.int .u8 a, .int .u8 b, .int .u8 c, .int .u8 d] e (0, 0)) := heap_alloc_new w _
  rw [cell_of_row _ w.heap.size (0 + i) _ e (0, 0) h]
  match i, hi with
  | 0, _ => rfl
  | 1, _ => rfl
  | 2, _ => rfl
  | 3, _ => rfl

end Go.Proofs.Ytjlekcoikceidaa
namespace Go.Proofs.Ytjlekcoikceidaa
open Go.RowKit

def vt (n : Nat) : List Int := if 127 < n then (128 + (n : Int) % 128) :: vt (n / 128) else [(n : Int)]
termination_by n
decreasing_by omega

theorem vt_big {n : Nat} (h : 127 < n) : vt n = (128 + (n : Int) % 128) :: vt (n / 128) := by rw [vt, if_pos h]
theorem vt_small {n : Nat} (h : ¬ 127 < n) : vt n = [(n : Int)] := by rw [vt, if_neg h]
theorem vt_len : ∀ (k n : Nat), n < 128 ^ (k + 1) → (vt n).length ≤ k + 1
  | 0, n, h => by rw [vt_small (by omega)]; simp
  | k + 1, n, h => by
    by_cases hb : 127 < n
    · rw [vt_big hb, List.length_cons]
      have := vt_len k (n / 128) (by rw [Nat.pow_succ] at h; omega)
      omega
    · rw [vt_small hb]; simp

end Go.Proofs.Ytjlekcoikceidaa
namespace Go.Proofs.Ytjlekcoikceidaa
open Go.RowKit

def owner (v n : Int) : Int := if 1 ≤ n ∧ n ≤ 8 ∧ 0 ≤ v ∧ v ≤ 11 then (crc (strOfNums (vt v.toNat)) : Int) % n else 0
theorem vt_small_size (v : Nat) (h : v ≤ 1000000000) : (strOfNums (vt v)).size ≤ maxLen := by
  rw [strOfNums_size]
  have := vt_len 4 v (by omega)
  unfold maxLen
  omega

end Go.Proofs.Ytjlekcoikceidaa
namespace Go.Proofs.Ytjlekcoikceidaa
open Go.RowKit

/-- The bytes of a draw, as they lie in w0. -/
structure Code0 (w0 : World) (A : Option Addr) (n : Nat) (zs : List Int) : Prop where
  rd : Rd w0 1 A n (zs.map (Value.int .u8))
  le : n ≤ 4294967296
  bd : ∀ z ∈ zs, 0 ≤ z ∧ z ≤ 255

theorem only_drewN {a w : World} {row : Option Nat} (h : a.grownBy w row) (n : Nat) : a.grownBy (w.drewN n) row := ⟨h.os, h.tape, h.output, h.size, h.block⟩
theorem only_setCell {a w : World} {g : Nat} (h : a.grownBy w (some g)) (o : Nat) (u : Value) : a.grownBy (w.setCell ⟨g, o, none⟩ u) (some g) :=
  ⟨h.os, h.tape, h.output, by simpa [World.setCell] using h.size, fun i hi hne => (Below.heap_setCell w ⟨g, o, none⟩ u i (by
    rintro rfl
    exact hne rfl)).trans (h.block i hi hne)⟩
theorem only_trans {a b c : World} {g : Nat} (h : a.grownBy b (some g)) (k : b.grownBy c (some g)) : a.grownBy c (some g) :=
  ⟨k.os.trans h.os, k.tape.trans h.tape, k.output.trans h.output, Nat.le_trans h.size k.size, fun i hi hne => (k.block i (Nat.lt_of_lt_of_le hi h.size) hne).trans (h.block i hi hne)⟩
theorem below_only {w0 w w' : World} {g : Nat} (hb : Below w0.heap.size w0 w) (hg : w.grownBy w' (some g)) (hge : w0.heap.size ≤ g) : Below w0.heap.size w0 w' :=
  hb.grown hg hb.size (fun k hk => by cases hk; exact hge)

theorem and255 (x : Int) : 0 ≤ bits .and .i64 x 255 ∧ bits .and .i64 x 255 ≤ 255 := by
  show 0 ≤ IntKind.i64.wrap ((BitVec.ofInt 64 x &&& BitVec.ofInt 64 255).toNat : Int) ∧ IntKind.i64.wrap ((BitVec.ofInt 64 x &&& BitVec.ofInt 64 255).toNat : Int) ≤ 255
  have h : (BitVec.ofInt 64 x &&& BitVec.ofInt 64 255).toNat ≤ 255 := by
    rw [BitVec.toNat_and]
    exact Nat.le_trans Nat.and_le_right (by decide)
  rw [IntKind.wrap_i64]
  omega

theorem only_alloc {a w : World} {row : Option Nat} (h : a.grownBy w row) (o : Obj) : a.grownBy (w.alloc o) row :=
  ⟨h.os, h.tape, h.output, Nat.le_trans h.size (by simp), fun i hi hne => (Below.heap_alloc w o i (Nat.lt_of_lt_of_le hi h.size)).trans (h.block i hi hne)⟩
theorem only_row {a b c : World} {g : Nat} {row : Option Nat} (h : a.grownBy b (some g)) (k : b.grownBy c row) (hr : ∀ r, row = some r → a.heap.size ≤ r) : a.grownBy c (some g) :=
  ⟨k.os.trans h.os, k.tape.trans h.tape, k.output.trans h.output, Nat.le_trans h.size k.size, fun i hi hne => (k.block i (Nat.lt_of_lt_of_le hi h.size) (fun e => by have := hr i e.symm; omega)).trans (h.block i hi hne)⟩
theorem only_below {a b c : World} {g : Nat} (h : a.grownBy b (some g)) (k : Below b.heap.size b c) : a.grownBy c (some g) :=
  ⟨k.os.trans h.os, k.tape.trans h.tape, k.output.trans h.output, Nat.le_trans h.size k.size, fun i hi hne => (k.block i (Nat.lt_of_lt_of_le hi h.size)).trans (h.block i hi hne)⟩
theorem own_only {w w' : World} {g base : Nat} {e : TypeId} {size : Nat} {v : Value} {n : Nat} {xs : List Value} (h : w.ownsRow base e size v n xs) (hg : w.grownBy w' (some g)) (hlt : g < base) : w'.ownsRow base e size v n xs :=
  h.kept hg (.inr fun he => by have := (h.lt g he).1; omega)

end Go.Proofs.Ytjlekcoikceidaa
namespace Go.Proofs.Ytjlekcoikceidaa
open Go.RowKit

/-- The edges whose start a worker owns. -/
def partE (wk n : Int) (es : List Ed) : List Ed := es.filter (fun e => owner e.f n == wk)
noncomputable def partL (s : Int) (es : List Ed) (wk n : Int) : List Ed := if PP (GOk s es) then partE wk n es else []
theorem partE_next {wk n : Int} {es : List Ed} {k : Nat} (h : k < es.length) : partE wk n (es.take (k + 1)) = partE wk n (es.take k) ++ (if owner es[k].f n = wk then [es[k]] else []) := by
  unfold partE
  rw [List.take_succ_eq_append_getElem h, List.filter_append]
  congr 1
  by_cases e : owner es[k].f n = wk <;> simp [e]

theorem Rd.new3 (w : World) (a b c : Value) (e : TypeId) : Rd (w.alloc (.cells #[a, b, c] e)) 3 (some ⟨w.heap.size, 0, none⟩) 1 [a, b, c] := by
  refine ⟨rfl, fun _ => ⟨_, rfl, fun j u hu => ?_⟩⟩
  have hadd : (⟨w.heap.size, 0, none⟩ : Addr).add j = ⟨w.heap.size, j, none⟩ := by unfold Addr.add; split <;> simp_all
  rw [hadd, cell_of_row _ w.heap.size j #[a, b, c] e (0, 0) (heap_alloc_new w _)]
  simpa using hu
end Go.Proofs.Ytjlekcoikceidaa
