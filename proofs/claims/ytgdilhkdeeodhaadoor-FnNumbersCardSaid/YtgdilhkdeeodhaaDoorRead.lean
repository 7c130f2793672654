/- The variable-length form read back: plain numbers. No program in sight. -/
import Derived.Test.YtgdilhkdeeodhaaDoorVar
import Derived.Lib.Strings
namespace Go.Proofs.YtgdilhkdeeodhaaDoor
open Go.RowKit

/-- Byte j of the text. -/
def byteAt (s : ByteArray) (j : Nat) : Nat := (s.data.toList.getD j 0).toNat
theorem byteAt_eq (s : ByteArray) (j : Nat) (h : j < s.size) : byteAt s j = s[j].toNat := by
  unfold byteAt
  rw [List.getD_eq_getElem?_getD, List.getElem?_eq_getElem (by simpa using h)]
  rfl
theorem byteAt_lt (s : ByteArray) (j : Nat) : byteAt s j < 256 := by
  unfold byteAt
  have := (s.data.toList.getD j 0).toNat_lt
  omega
/-- The number that the first k bytes from a on say. -/
def vTo (s : ByteArray) (a : Nat) : Nat → Nat
  | 0 => 0
  | k + 1 => vTo s a k + byteAt s (a + k) % 128 * 128 ^ k
theorem vTo_lt (s : ByteArray) (a : Nat) : ∀ k, vTo s a k < 128 ^ k
  | 0 => by simp [vTo]
  | k + 1 => by
    have h := vTo_lt s a k
    have hm : byteAt s (a + k) % 128 * 128 ^ k ≤ 127 * 128 ^ k := Nat.mul_le_mul_right _ (by omega)
    rw [vTo, Nat.pow_succ]
    omega
/-- What is read from a on, the first k bytes having been read. -/
def rvGo (s : ByteArray) (a : Nat) : Nat → Nat → Option (Nat × Nat)
  | 0, _ => none
  | f + 1, k => if a + k < s.size then
      (if byteAt s (a + k) < 128 then (if vTo s a (k + 1) ≤ 1000000000 ∧ ¬ (byteAt s (a + k) = 0 ∧ 0 < k) then some (vTo s a (k + 1), a + k + 1) else none) else rvGo s a f (k + 1))
      else none
def rvVal : Option (Nat × Nat) → Value
  | some (n, e) => .tuple #[.int .i64 n, .int .i64 e, .bool true]
  | none => .tuple #[.int .i64 0, .int .i64 0, .bool false]
def rvOut (s : ByteArray) (i : Int) : Option (Nat × Nat) := if 0 ≤ i ∧ i ≤ s.size then rvGo s i.toNat 5 0 else none
theorem rvVal_is (o : Option (Nat × Nat)) : ∃ (n e : Int) (b : Bool), rvVal o = .tuple #[.int .i64 n, .int .i64 e, .bool b] := by
  rcases o with _ | ⟨n, e⟩
  · exact ⟨_, _, _, rfl⟩
  · exact ⟨_, _, _, rfl⟩

theorem rvGo_end {s : ByteArray} {a f k : Nat} (h : ¬ a + k < s.size) : rvGo s a f k = none := by
  cases f
  · rfl
  · rw [rvGo, if_neg h]
theorem rvGo_on {s : ByteArray} {a f k : Nat} (h : a + k < s.size) (hb : ¬ byteAt s (a + k) < 128) : rvGo s a (f + 1) k = rvGo s a f (k + 1) := by
  rw [rvGo, if_pos h, if_neg hb]
theorem rvGo_yes {s : ByteArray} {a f k : Nat} (h : a + k < s.size) (hb : byteAt s (a + k) < 128) (hn : vTo s a (k + 1) ≤ 1000000000) (hz : ¬ (byteAt s (a + k) = 0 ∧ 0 < k)) :
    rvGo s a (f + 1) k = some (vTo s a (k + 1), a + k + 1) := by
  rw [rvGo, if_pos h, if_pos hb, if_pos ⟨hn, hz⟩]
theorem rvGo_no {s : ByteArray} {a f k : Nat} (h : a + k < s.size) (hb : byteAt s (a + k) < 128) (hn : ¬ (vTo s a (k + 1) ≤ 1000000000 ∧ ¬ (byteAt s (a + k) = 0 ∧ 0 < k))) :
    rvGo s a (f + 1) k = none := by
  rw [rvGo, if_pos h, if_pos hb, if_neg hn]

/-- The bytes from a on, k of them, as numbers. -/
def bsFrom (s : ByteArray) (a : Nat) : Nat → List Int
  | 0 => []
  | k + 1 => (byteAt s a : Int) :: bsFrom s (a + 1) k
theorem vTo_shift (s : ByteArray) (a : Nat) : ∀ k, vTo s a (k + 1) = byteAt s a % 128 + 128 * vTo s (a + 1) k
  | 0 => by simp [vTo]
  | k + 1 => by
    rw [vTo, vTo_shift s a k, vTo, Nat.pow_succ, show a + 1 + k = a + (k + 1) by omega, Nat.mul_add]
    have : byteAt s (a + (k + 1)) % 128 * (128 ^ k * 128) = 128 * (byteAt s (a + (k + 1)) % 128 * 128 ^ k) := by
      rw [Nat.mul_comm (128 ^ k) 128, ← Nat.mul_assoc, Nat.mul_comm (byteAt s (a + (k + 1)) % 128) 128, Nat.mul_assoc]
    omega
theorem vTo_pos (s : ByteArray) : ∀ (k a : Nat), byteAt s (a + k) < 128 → byteAt s (a + k) ≠ 0 → 0 < vTo s a (k + 1)
  | 0, a, h, h0 => by
    simp only [Nat.add_zero] at h h0
    simp [vTo]
    omega
  | k + 1, a, h, h0 => by
    have := vTo_pos s k (a + 1) (by rw [show a + 1 + k = a + (k + 1) by omega]; exact h) (by rw [show a + 1 + k = a + (k + 1) by omega]; exact h0)
    rw [vTo_shift]
    omega
/-- A number's form is the shortest one: it reads back to these bytes just where the last is not an idle 0. -/
theorem vt_canon (s : ByteArray) : ∀ (k a : Nat), (∀ j, j < k → 128 ≤ byteAt s (a + j)) → byteAt s (a + k) < 128 →
    (vt (vTo s a (k + 1)) = bsFrom s a (k + 1) ↔ ¬ (byteAt s (a + k) = 0 ∧ 0 < k))
  | 0, a, _, h => by
    simp only [Nat.add_zero] at h
    have e : vTo s a 1 = byteAt s a := by simp [vTo]; omega
    rw [e, vt_small (by omega)]
    simp [bsFrom]
  | k + 1, a, hall, h => by
    have h0 := hall 0 (by omega)
    have hlt := byteAt_lt s a
    simp only [Nat.add_zero] at h0
    have ih := vt_canon s k (a + 1) (fun j hj => by have := hall (j + 1) (by omega); rw [show a + 1 + j = a + (j + 1) by omega]; exact this)
      (by rw [show a + 1 + k = a + (k + 1) by omega]; exact h)
    rw [show a + 1 + k = a + (k + 1) by omega] at ih
    rw [vTo_shift]
    by_cases hz : vTo s (a + 1) (k + 1) = 0
    · have hzero : byteAt s (a + (k + 1)) = 0 := by
        rcases Nat.eq_zero_or_pos (byteAt s (a + (k + 1))) with h1 | h1
        · exact h1
        · have := vTo_pos s k (a + 1) (by rw [show a + 1 + k = a + (k + 1) by omega]; exact h) (by rw [show a + 1 + k = a + (k + 1) by omega]; omega)
          omega
      rw [hz, vt_small (by omega)]
      constructor
      · intro he
        simp [bsFrom] at he
      · intro hn
        exact absurd ⟨hzero, by omega⟩ hn
    · rw [vt_big (by omega), show (byteAt s a % 128 + 128 * vTo s (a + 1) (k + 1)) / 128 = vTo s (a + 1) (k + 1) by omega]
      have e1 : (128 + ((byteAt s a % 128 + 128 * vTo s (a + 1) (k + 1) : Nat) : Int) % 128) = (byteAt s a : Int) := by omega
      rw [e1, bsFrom]
      constructor
      · intro he
        have he' := (List.cons.inj he).2
        have := ih.1 he'
        intro hc
        apply this
        refine ⟨hc.1, ?_⟩
        rcases Nat.eq_zero_or_pos k with hk | hk
        · subst hk
          exfalso
          apply hz
          simp only [Nat.zero_add] at hc h ⊢
          simp [vTo, hc.1]
        · exact hk
      · intro hn
        rw [ih.2 (fun hc => hn ⟨hc.1, by omega⟩)]

theorem bs_extract (s : ByteArray) : ∀ (k a : Nat), a + k ≤ s.size → strOfNums (bsFrom s a k) = s.extract a (a + k)
  | k, a, h => by
    apply ByteArray.ext
    apply Array.toList_inj.1
    rw [strOfNums_data, Lib.extract_data, show a + k - a = k by omega]
    have : ∀ (k a : Nat), a + k ≤ s.size → (bsFrom s a k).map (fun n => UInt8.ofNat n.toNat) = (s.data.toList.drop a).take k := by
      intro k
      induction k with
      | zero => intro a _; simp [bsFrom]
      | succ k ih =>
        intro a ha
        have hl : a < s.data.toList.length := by
          have : s.data.toList.length = s.size := by simp
          omega
        rw [bsFrom, List.map_cons, ih (a + 1) (by omega), List.drop_eq_getElem_cons hl, List.take_succ_cons]
        congr 1
        rw [byteAt, List.getD_eq_getElem?_getD, List.getElem?_eq_getElem hl]
        simp
    exact this k a h

/-- The comparison that the reference makes. -/
theorem canon_beq (s : ByteArray) (a k : Nat) (hk : a + k + 1 ≤ s.size) (hall : ∀ j, j < k → 128 ≤ byteAt s (a + j)) (hb : byteAt s (a + k) < 128) :
    ((strOfNums (vt (vTo s a (k + 1)))).toList == (s.extract a (a + k + 1)).toList) = true ↔ ¬ (byteAt s (a + k) = 0 ∧ 0 < k) := by
  rw [← vt_canon s k a hall hb, beq_iff_eq, ByteArray.toList_eq, ByteArray.toList_eq, show a + k + 1 = a + (k + 1) by omega, ← bs_extract s (k + 1) a (by omega)]
  constructor
  · intro h
    rw [strOfNums_data, strOfNums_data] at h
    have key : ∀ (xs ys : List Int), (∀ x ∈ xs, 0 ≤ x ∧ x < 256) → (∀ y ∈ ys, 0 ≤ y ∧ y < 256) → xs.map (fun n => UInt8.ofNat n.toNat) = ys.map (fun n => UInt8.ofNat n.toNat) → xs = ys := by
      intro xs
      induction xs with
      | nil => intro ys _ _ h; cases ys with | nil => rfl | cons y ys => simp at h
      | cons x xs ih =>
        intro ys hx hy h
        cases ys with
        | nil => simp at h
        | cons y ys =>
          rw [List.map_cons, List.map_cons] at h
          have h1 := (List.cons.inj h).1
          have h2 := ih ys (fun z hz => hx z (by simp [hz])) (fun z hz => hy z (by simp [hz])) (List.cons.inj h).2
          have hx' := hx x (by simp)
          have hy' := hy y (by simp)
          have h3 := congrArg UInt8.toNat h1
          simp only [UInt8.toNat_ofNat'] at h3
          rw [h2, show x = y by omega]
    refine key _ _ ?_ ?_ h
    · have : ∀ n : Nat, ∀ x ∈ vt n, 0 ≤ x ∧ x < 256 := by
        intro n
        induction n using Nat.strongRecOn with
        | ind n ih =>
          intro x hx
          by_cases hn : 127 < n
          · rw [vt_big hn] at hx
            rcases List.mem_cons.1 hx with rfl | hx
            · omega
            · exact ih (n / 128) (by omega) x hx
          · rw [vt_small hn] at hx
            simp at hx
            omega
      exact this _
    · have : ∀ (k a : Nat), ∀ x ∈ bsFrom s a k, 0 ≤ x ∧ x < 256 := by
        intro k
        induction k with
        | zero => intro a x hx; simp [bsFrom] at hx
        | succ k ih =>
          intro a x hx
          rw [bsFrom] at hx
          rcases List.mem_cons.1 hx with rfl | hx
          · have := byteAt_lt s a; omega
          · exact ih _ x hx
      exact this _ _
  · intro h
    rw [h]
end Go.Proofs.YtgdilhkdeeodhaaDoor
