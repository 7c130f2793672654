/- The checksum of a text, in four bytes; SumOf. No conditions. -/
import Derived.Test.YtlnphcongijfiaaSum
namespace Go.Proofs.Ytlnphcongijfiaa
open Go.RowKit

def crc (s : ByteArray) : Nat := crcTo s 4294967295 s.size
theorem crc_lt (s : ByteArray) : crc s < 4294967296 := crcTo_lt s (by omega) _
def four (x : Nat) : List Int := [(x : Int) / 16777216, (x : Int) / 65536 % 256, (x : Int) / 256 % 256, (x : Int) % 256]

theorem run_string_new {P : Program} (w : World) (src dst e : TypeId) (hs : P.underlying src = some (.slice e)) (he : P.underlying e = some (.int .u8)) (hd : P.underlying dst = some .string) (a b c d : Int) :
    (convert src dst (.slice (some ⟨w.heap.size, 0, none⟩) 4 4)).run P (w.alloc (.cells #[.int .u8 a, .int .u8 b, .int .u8 c, .int .u8 d] e)) = .ok (.string (strOfNums [a, b, c, d])) (w.alloc (.cells #[.int .u8 a, .int .u8 b, .int .u8 c, .int .u8 d] e)) := by
  refine run_convert_bytes_arg _ src e hs he w.heap.size 0 4 4 [a, b, c, d] rfl (fun i hi => ?_) dst hd
  have h : (w.alloc (.cells #[.int .u8 a, .int .u8 b, .int .u8 c, .int .u8 d] e)).heap[w.heap.size]? = some (.cells #[.int .u8 a, .int .u8 b, .int .u8 c, .int .u8 d] e (0, 0)) := heap_alloc_new w _
  rw [cell_of_row _ w.heap.size (0 + i) _ e (0, 0) h]
  match i, hi with
  | 0, _ => rfl
  | 1, _ => rfl
  | 2, _ => rfl
  | 3, _ => rfl

set_option maxRecDepth 100000 in
theorem spec_SumOf_any (s : ByteArray) (hs : s.size ≤ maxLen) (w : World) : Calls Try.prog 139 #[.string s] w fun e w' => e = .returned (.int .u32 (crc s : Nat)) ∧ w = w' := by
  have C := Lib.hid (fun w => spec_SumMore_any 4294967295 (by omega) s hs w)
  go_enter Try.func139, Try.ntmps139
  go_wp2_with (go_at_call 156; refine (C.out _).mono ?_; rintro e w1 ⟨rfl, rfl⟩)
  go_ret
  exact ⟨rfl, rfl⟩

set_option maxRecDepth 100000 in
theorem impl_SumOf_any (s : ByteArray) (hs : s.size ≤ maxLen) (w : World) : Calls Try.prog 74 #[.string s] w fun e w' => e = .returned (.int .u32 (crc s : Nat)) ∧ w = w' := by
  have C := Lib.hid (fun w => impl_SumMore_any 4294967295 (by omega) s hs w)
  go_enter Try.func74, Try.ntmps74
  go_wp2_with (go_at_call 120; refine (C.out _).mono ?_; rintro e w1 ⟨rfl, rfl⟩)
  go_ret
  exact ⟨rfl, rfl⟩

end Go.Proofs.Ytlnphcongijfiaa
