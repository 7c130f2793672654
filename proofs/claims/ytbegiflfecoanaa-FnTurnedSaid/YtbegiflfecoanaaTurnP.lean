/- One byte turned is told by the checksum: plain numbers. No program in sight. -/
import Derived.Test.YtbegiflfecoanaaSealed
namespace Go.Proofs.Ytbegiflfecoanaa
open Go.RowKit

theorem xor_cancel {a b c : Nat} (h : a ^^^ c = b ^^^ c) : a = b := by
  have h2 := congrArg (fun z => z ^^^ c) h
  simp only [Nat.xor_assoc, Nat.xor_self, Nat.xor_zero] at h2
  exact h2
theorem crcStep_inj {x y : Nat} (hx : x < 4294967296) (hy : y < 4294967296) (h : crcStep x = crcStep y) : x = y := by
  have big : ∀ a b : Nat, a < 2147483648 → b < 2147483648 → a ^^^ 3558460437 ≠ b := by
    intro a b ha hb e
    have h1 : a ^^^ b = 3558460437 := by
      rw [← e, ← Nat.xor_assoc, Nat.xor_self, Nat.zero_xor]
    have h2 : a ^^^ b < 2 ^ 31 := Nat.xor_lt_two_pow (by omega) (by omega)
    omega
  by_cases ox : x % 2 = 1 <;> by_cases oy : y % 2 = 1
  · rw [crcStep_odd ox, crcStep_odd oy] at h
    have := xor_cancel h
    omega
  · rw [crcStep_odd ox, crcStep_even oy] at h
    exact absurd h (big _ _ (by omega) (by omega))
  · rw [crcStep_even ox, crcStep_odd oy] at h
    exact absurd h.symm (big _ _ (by omega) (by omega))
  · rw [crcStep_even ox, crcStep_even oy] at h
    omega
theorem crcN_inj : ∀ (k : Nat) {x y : Nat}, x < 4294967296 → y < 4294967296 → crcN k x = crcN k y → x = y
  | 0, _, _, _, _, h => h
  | k + 1, _, _, hx, hy, h => crcN_inj k hx hy (crcStep_inj (crcN_lt k hx) (crcN_lt k hy) h)
theorem crcByte_lt {x b : Nat} (h : x < 4294967296) (hb : b < 4294967296) : crcByte x b < 4294967296 := crcN_lt 8 (xor_lt h hb)
theorem crcByte_inj {x y b : Nat} (hx : x < 4294967296) (hy : y < 4294967296) (hb : b < 4294967296) (h : crcByte x b = crcByte y b) : x = y :=
  xor_cancel (crcN_inj 8 (xor_lt hx hb) (xor_lt hy hb) h)
theorem crcByte_inj2 {x b d : Nat} (hx : x < 4294967296) (hb : b < 4294967296) (hd : d < 4294967296) (h : crcByte x b = crcByte x d) : b = d := by
  have := crcN_inj 8 (xor_lt hx hb) (xor_lt hx hd) h
  rw [Nat.xor_comm x b, Nat.xor_comm x d] at this
  exact xor_cancel this

/-- The sum over a list of bytes. -/
def crcL (l : List UInt8) (x : Nat) : Nat := l.foldl (fun x b => crcByte x b.toNat) x
theorem crcL_lt : ∀ (l : List UInt8) {x : Nat}, x < 4294967296 → crcL l x < 4294967296
  | [], _, h => h
  | b :: l, _, h => crcL_lt l (crcByte_lt h (byte_lt b))
theorem crcL_inj : ∀ (l : List UInt8) {x y : Nat}, x < 4294967296 → y < 4294967296 → crcL l x = crcL l y → x = y
  | [], _, _, _, _, h => h
  | b :: l, _, _, hx, hy, h => crcByte_inj hx hy (byte_lt b) (crcL_inj l (crcByte_lt hx (byte_lt b)) (crcByte_lt hy (byte_lt b)) h)
theorem crcL_set : ∀ (l : List UInt8) (i : Nat) (v : UInt8) (x : Nat), x < 4294967296 → (hi : i < l.length) → v ≠ l[i] → crcL (l.set i v) x ≠ crcL l x
  | b :: l, 0, v, x, hx, _, hne, h => by
    have h1 := crcL_inj l (crcByte_lt hx (byte_lt v)) (crcByte_lt hx (byte_lt b)) h
    exact hne (UInt8.toNat_inj.1 (crcByte_inj2 hx (byte_lt v) (byte_lt b) h1))
  | b :: l, i + 1, v, x, hx, hi, hne, h => crcL_set l i v _ (crcByte_lt hx (byte_lt b)) (by simpa using hi) hne h

theorem crcTo_take (s : ByteArray) (x : Nat) : ∀ k, k ≤ s.size → crcTo s x k = crcL (s.data.toList.take k) x
  | 0, _ => by simp [crcTo, crcL]
  | k + 1, h => by
    have hl : k < s.data.toList.length := by
      have : s.data.toList.length = s.size := by simp
      omega
    rw [crcTo, crcTo_take s x k (by omega), List.take_succ_eq_append_getElem hl, crcL, crcL, List.foldl_append, List.getD_eq_getElem?_getD, List.getElem?_eq_getElem hl]
    rfl
theorem crc_eq (s : ByteArray) : crc s = crcL s.data.toList 4294967295 := by
  rw [crc, crcTo_take s _ _ (Nat.le_refl _), List.take_of_length_le (by simp)]

def fourB (x : Nat) : List UInt8 := (four x).map fun n => UInt8.ofNat n.toNat
theorem strOf_four (x : Nat) : (strOfNums (four x)).data.toList = fourB x := rfl
theorem fourB_len (x : Nat) : (fourB x).length = 4 := rfl
theorem fourB_inj {x y : Nat} (hx : x < 4294967296) (hy : y < 4294967296) (h : fourB x = fourB y) : x = y := by
  unfold fourB four at h
  simp only [List.map_cons, List.map_nil, List.cons.injEq, and_true] at h
  obtain ⟨h1, h2, h3, h4⟩ := h
  have f : ∀ a b : Int, 0 ≤ a → a < 256 → 0 ≤ b → b < 256 → UInt8.ofNat a.toNat = UInt8.ofNat b.toNat → a = b := by
    intro a b a0 a1 b0 b1 e
    have := congrArg UInt8.toNat e
    simp only [UInt8.toNat_ofNat'] at this
    omega
  have e1 := f _ _ (by omega) (by omega) (by omega) (by omega) h1
  have e2 := f _ _ (by omega) (by omega) (by omega) (by omega) h2
  have e3 := f _ _ (by omega) (by omega) (by omega) (by omega) h3
  have e4 := f _ _ (by omega) (by omega) (by omega) (by omega) h4
  omega

theorem sealOk_iff (t : ByteArray) (p q : List UInt8) (hq : q.length = 4) (ht : t.data.toList = p ++ q) : sealOk t = decide (q = fourB (crcL p 4294967295)) := by
  have hs : t.size = p.length + 4 := by
    have : t.data.toList.length = t.size := by simp
    rw [← this, ht, List.length_append, hq]
  unfold sealOk
  rw [ByteArray.toList_eq, ByteArray.toList_eq, strOf_four, crc_eq, Lib.extract_data, Lib.extract_data, hs, ht]
  have e1 : ((p ++ q).drop (p.length + 4 - 4)).take (p.length + 4 - (p.length + 4 - 4)) = q := by
    rw [show p.length + 4 - 4 = p.length by omega, List.drop_left, show p.length + 4 - p.length = 4 by omega]
    exact List.take_of_length_le (by omega)
  have e2 : ((p ++ q).drop 0).take (p.length + 4 - 4 - 0) = p := by
    rw [show p.length + 4 - 4 - 0 = p.length by omega, List.drop_zero, List.take_left]
  rw [e1, e2]
  by_cases h : q = fourB (crcL p 4294967295)
  · simp [h]
  · simp [h]

/-- A sealed text is in order. -/
theorem sealed_ok (s : ByteArray) : sealOk (s ++ strOfNums (four (crc s))) = true := by
  rw [sealOk_iff _ s.data.toList (fourB (crc s)) (fourB_len _) (by rw [ByteArray.data_append, Array.toList_append, strOf_four]), crc_eq]
  simp
/-- With one byte turned it is not. -/
theorem turned_no (s : ByteArray) (l : List UInt8) (hl : l = s.data.toList ++ fourB (crc s)) (i : Nat) (v : UInt8) (hi : i < l.length) (hv : v ≠ l[i]) (t : ByteArray) (ht : t.data.toList = l.set i v) : sealOk t = false := by
  subst hl
  by_cases hp : i < s.data.toList.length
  · rw [List.set_append_left _ _ hp] at ht
    rw [sealOk_iff t _ _ (fourB_len _) ht]
    have hne : crcL (s.data.toList.set i v) 4294967295 ≠ crcL s.data.toList 4294967295 :=
      crcL_set _ i v _ (by omega) hp (by rw [List.getElem_append_left hp] at hv; exact hv)
    simp only [decide_eq_false_iff_not]
    intro h
    apply hne
    rw [crc_eq] at h
    exact (fourB_inj (crcL_lt _ (by omega)) (crcL_lt _ (by omega)) h).symm
  · rw [List.set_append_right _ _ (by omega)] at ht
    rw [sealOk_iff t _ _ (by rw [List.length_set, fourB_len]) ht, ← crc_eq]
    simp only [decide_eq_false_iff_not]
    intro h
    have hlen : i - s.data.toList.length < (fourB (crc s)).length := by rw [List.length_append] at hi; omega
    have h2 : ((fourB (crc s)).set (i - s.data.toList.length) v)[i - s.data.toList.length]? = (fourB (crc s))[i - s.data.toList.length]? := by rw [h]
    rw [List.getElem?_set_self hlen, List.getElem?_eq_getElem hlen] at h2
    rw [List.getElem_append_right (by omega)] at hv
    exact hv (by simpa using h2)
/-- SumMore goes on where SumOf ended. -/
theorem crc_more (s t : ByteArray) : crcTo t (crc s) t.size = crc (s ++ t) := by
  rw [crc_eq, crc_eq, crcTo_take t _ _ (Nat.le_refl _), List.take_of_length_le (by simp), ByteArray.data_append, Array.toList_append, crcL, crcL, crcL, List.foldl_append]
end Go.Proofs.Ytbegiflfecoanaa
