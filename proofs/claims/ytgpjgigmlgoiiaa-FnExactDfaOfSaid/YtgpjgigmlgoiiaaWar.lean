/- Warshall's way over sets of bits: it is the closure. Plain. -/
import Derived.Test.YtgpjgigmlgoiiaaPlus
namespace Go.Proofs.Ytgpjgigmlgoiiaa
open Go.RowKit

/-- The relation that a row of sets says. -/
def RB (rs : List Nat) (i j : Nat) : Prop := (rs.getD i 0).testBit j = true
/-- A path of one step or more, by places below k. -/
inductive Pth (r : Nat → Nat → Prop) (k : Nat) : Nat → Nat → Prop
  | one {i j : Nat} : r i j → Pth r k i j
  | cat {i m j : Nat} : Pth r k i m → m < k → Pth r k m j → Pth r k i j
theorem Pth.more {r : Nat → Nat → Prop} {k k' i j : Nat} (hk : k ≤ k') (h : Pth r k i j) : Pth r k' i j := by
  induction h with
  | one h => exact .one h
  | cat _ hm _ ih1 ih2 => exact .cat ih1 (by omega) ih2
theorem Pth.zero {r : Nat → Nat → Prop} {i j : Nat} (h : Pth r 0 i j) : r i j := by
  cases h with
  | one h => exact h
  | cat _ hm _ => exact absurd hm (by omega)
theorem Pth.next {r : Nat → Nat → Prop} {k i j : Nat} : Pth r (k + 1) i j ↔ Pth r k i j ∨ (Pth r k i k ∧ Pth r k k j) := by
  constructor
  · intro h
    induction h with
    | one h => exact .inl (.one h)
    | @cat i m j _ hm _ ih1 ih2 =>
      by_cases e : m = k
      · subst e
        refine .inr ⟨?_, ?_⟩
        · rcases ih1 with h | ⟨h, _⟩ <;> exact h
        · rcases ih2 with h | ⟨_, h⟩ <;> exact h
      · have hm' : m < k := by omega
        rcases ih1 with h1 | ⟨h1, h1'⟩
        · rcases ih2 with h2 | ⟨h2, h2'⟩
          · exact .inl (.cat h1 hm' h2)
          · exact .inr ⟨.cat h1 hm' h2, h2'⟩
        · rcases ih2 with h2 | ⟨_, h2'⟩
          · exact .inr ⟨h1, .cat h1' hm' h2⟩
          · exact .inr ⟨h1, h2'⟩
  · rintro (h | ⟨h1, h2⟩)
    · exact h.more (by omega)
    · exact .cat (h1.more (by omega)) (by omega) (h2.more (by omega))
theorem gd_set (rs : List Nat) (i j S : Nat) (hi : i < rs.length) : (rs.set i S).getD j 0 = if i = j then S else rs.getD j 0 := by
  simp only [List.getD, List.getElem?_set]
  by_cases e : i = j
  · subst e; rw [if_pos rfl, if_pos rfl, if_pos hi]; rfl
  · rw [if_neg e, if_neg e]
/-- What one round does to a row. -/
def wrN (rs : List Nat) (k i : Nat) : Nat := if (rs.getD i 0).testBit k = true then rs.getD i 0 ||| rs.getD k 0 else rs.getD i 0
theorem wrN_self (rs : List Nat) (k : Nat) : wrN rs k k = rs.getD k 0 := by
  unfold wrN
  split
  · exact Nat.or_self _
  · rfl
theorem plI_at (rs : List Nat) (k : Nat) : ∀ m, m ≤ rs.length → ∀ i, (plI rs k m).getD i 0 = if i < m then wrN rs k i else rs.getD i 0
  | 0, _, i => by rw [if_neg (by omega)]; rfl
  | m + 1, hm, i => by
    have ih := plI_at rs k m (by omega)
    have hl := plI_len rs k m
    have hk : (plI rs k m).getD k 0 = rs.getD k 0 := by
      rw [ih k]
      split
      · exact wrN_self rs k
      · rfl
    have hmm : (plI rs k m).getD m 0 = rs.getD m 0 := by rw [ih m, if_neg (by omega)]
    unfold plI plS
    rw [hmm, hk]
    by_cases hb : (rs.getD m 0).testBit k = true
    · rw [if_pos hb, gd_set _ _ _ _ (by omega)]
      by_cases e : m = i
      · subst e
        rw [if_pos rfl, if_pos (by omega)]
        unfold wrN
        rw [if_pos hb]
      · rw [if_neg e, ih i]
        by_cases h2 : i < m
        · rw [if_pos h2, if_pos (by omega)]
        · rw [if_neg h2, if_neg (by omega)]
    · rw [if_neg hb, ih i]
      by_cases h2 : i < m
      · rw [if_pos h2, if_pos (by omega)]
      · rw [if_neg h2]
        by_cases e : i = m
        · subst e
          rw [if_pos (by omega)]
          unfold wrN
          rw [if_neg hb]
        · rw [if_neg (by omega)]
theorem gd_far {rs : List Nat} {i : Nat} (h : rs.length ≤ i) : rs.getD i 0 = 0 := by
  simp [List.getD, List.getElem?_eq_none h]
/-- After k rounds: the paths by places below k. -/
theorem plK_pth (rs : List Nat) : ∀ k, k ≤ rs.length → ∀ i j, RB (plK rs k) i j ↔ Pth (RB rs) k i j
  | 0, _, i, j => ⟨fun h => .one h, fun h => h.zero⟩
  | k + 1, hk, i, j => by
    have ih := plK_pth rs k (by omega)
    have hl := plK_len rs k
    rw [Pth.next, ← ih i j, ← ih i k, ← ih k j]
    unfold RB
    have h1 : (plK rs (k + 1)).getD i 0 = if i < rs.length then wrN (plK rs k) k i else (plK rs k).getD i 0 := by
      have := plI_at (plK rs k) k rs.length (by omega) i
      exact this
    rw [h1]
    by_cases hi : i < rs.length
    · rw [if_pos hi]
      unfold wrN
      by_cases hb : ((plK rs k).getD i 0).testBit k = true
      · rw [if_pos hb, Nat.testBit_or, Bool.or_eq_true]
        constructor
        · rintro (h | h)
          · exact .inl h
          · exact .inr ⟨hb, h⟩
        · rintro (h | ⟨_, h⟩)
          · exact .inl h
          · exact .inr h
      · rw [if_neg hb]
        constructor
        · intro h; exact .inl h
        · rintro (h | ⟨h, _⟩)
          · exact h
          · exact absurd h hb
    · rw [if_neg hi]
      have h0 : (plK rs k).getD i 0 = 0 := gd_far (by omega)
      rw [h0]
      simp
theorem plusN_pth (rs : List Nat) (i j : Nat) : RB (plusN rs) i j ↔ Pth (RB rs) rs.length i j := plK_pth rs rs.length (Nat.le_refl _) i j
theorem thTo_bit (b : List Nat) (S : Nat) (j : Nat) : ∀ m, (thTo b S m).testBit j = true ↔ ∃ k, k < m ∧ S.testBit k = true ∧ RB b k j
  | 0 => by simp [thTo]
  | m + 1 => by
    have ih := thTo_bit b S j m
    unfold thTo
    by_cases h : S.testBit m = true
    · rw [if_pos h, Nat.testBit_or, Bool.or_eq_true, ih]
      constructor
      · rintro (⟨k, h1, h2⟩ | h2)
        · exact ⟨k, by omega, h2⟩
        · exact ⟨m, by omega, h, h2⟩
      · rintro ⟨k, h1, h2, h3⟩
        rcases (by omega : k < m ∨ k = m) with h4 | h4
        · exact .inl ⟨k, h4, h2, h3⟩
        · subst h4; exact .inr h3
    · rw [if_neg h, ih]
      constructor
      · rintro ⟨k, h1, h2⟩; exact ⟨k, by omega, h2⟩
      · rintro ⟨k, h1, h2, h3⟩
        rcases (by omega : k < m ∨ k = m) with h4 | h4
        · exact ⟨k, h4, h2, h3⟩
        · subst h4; exact absurd h2 h
theorem thenN_rb {a b : List Nat} {i j : Nat} (hi : i < a.length) : RB (thenN a b) i j ↔ ∃ k, k < b.length ∧ RB a i k ∧ RB b k j := by
  unfold RB thenN
  rw [rowF_at hi]
  exact thTo_bit b _ j b.length
theorem orN_rb {a b : List Nat} {i j : Nat} (hi : i < a.length) : RB (orN a b) i j ↔ RB a i j ∨ RB b i j := by
  unfold RB orN
  rw [rowF_at hi, Nat.testBit_or, Bool.or_eq_true]
theorem idN_rb {n i j : Nat} (hi : i < n) : RB (idN n) i j ↔ i = j := by
  unfold RB idN
  rw [rowF_at hi, Nat.testBit_two_pow]
  simp
end Go.Proofs.Ytgpjgigmlgoiiaa
