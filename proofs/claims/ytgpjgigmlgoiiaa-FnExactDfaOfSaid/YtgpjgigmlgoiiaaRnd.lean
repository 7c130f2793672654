/- As many rounds as there are places reach the closure. Plain. -/
import Derived.Test.YtgpjgigmlgoiiaaWar
namespace Go.Proofs.Ytgpjgigmlgoiiaa
open Go.RowKit

def cntS (n : Nat) (S : Nat → Bool) : Nat := ((List.range n).filter S).length
theorem cntS_succ (n : Nat) (S : Nat → Bool) : cntS (n + 1) S = cntS n S + (if S n = true then 1 else 0) := by
  unfold cntS
  rw [List.range_succ, List.filter_append, List.length_append]
  by_cases h : S n = true <;> simp [h]
theorem cntS_le (n : Nat) (S : Nat → Bool) : cntS n S ≤ n := by
  induction n with
  | zero => simp [cntS]
  | succ n ih => rw [cntS_succ]; split <;> omega
theorem cntS_mono {n : Nat} {S T : Nat → Bool} (h : ∀ j, j < n → S j = true → T j = true) : cntS n S ≤ cntS n T := by
  induction n with
  | zero => simp [cntS]
  | succ n ih =>
    have h1 := ih (fun j hj => h j (by omega))
    rw [cntS_succ, cntS_succ]
    by_cases e : S n = true
    · rw [if_pos e, if_pos (h n (by omega) e)]; omega
    · rw [if_neg e]; omega
theorem cntS_lt {n : Nat} {S T : Nat → Bool} (h : ∀ j, j < n → S j = true → T j = true) (hj : ∃ j, j < n ∧ S j = false ∧ T j = true) : cntS n S + 1 ≤ cntS n T := by
  induction n with
  | zero => obtain ⟨j, h1, _⟩ := hj; omega
  | succ n ih =>
    have hm := cntS_mono (n := n) (S := S) (T := T) (fun j hj => h j (by omega))
    rw [cntS_succ, cntS_succ]
    obtain ⟨j, h1, h2, h3⟩ := hj
    by_cases e : j = n
    · subst e
      rw [if_neg (by rw [h2]; simp), if_pos h3]; omega
    · have h4 := ih (fun j hj => h j (by omega)) ⟨j, by omega, h2, h3⟩
      by_cases e2 : S n = true
      · rw [if_pos e2, if_pos (h n (by omega) e2)]; omega
      · rw [if_neg e2]; omega
theorem cntS_all {n : Nat} {S : Nat → Bool} (h : n ≤ cntS n S) : ∀ j, j < n → S j = true := by
  induction n with
  | zero => intro j hj; omega
  | succ n ih =>
    rw [cntS_succ] at h
    have h1 := cntS_le n S
    intro j hj
    by_cases e : S n = true
    · rcases (by omega : j < n ∨ j = n) with h2 | h2
      · rw [if_pos e] at h
        exact ih (by omega) j h2
      · subst h2; exact e
    · rw [if_neg e] at h; omega
/-- One round more. -/
def stp (n : Nat) (b : Nat → Nat → Bool) (S : Nat → Bool) : Nat → Bool := fun j => S j || (List.range n).any (fun k => S k && b k j)
theorem stp_iff {n : Nat} {b : Nat → Nat → Bool} {S : Nat → Bool} {j : Nat} : stp n b S j = true ↔ S j = true ∨ ∃ k, k < n ∧ S k = true ∧ b k j = true := by
  unfold stp
  rw [Bool.or_eq_true, List.any_eq_true]
  constructor
  · rintro (h | ⟨k, hk, h⟩)
    · exact .inl h
    · rw [Bool.and_eq_true] at h
      exact .inr ⟨k, List.mem_range.1 hk, h.1, h.2⟩
  · rintro (h | ⟨k, hk, h1, h2⟩)
    · exact .inl h
    · exact .inr ⟨k, List.mem_range.2 hk, by rw [h1, h2]; rfl⟩
def rnd (n : Nat) (b : Nat → Nat → Bool) (S : Nat → Bool) : Nat → Nat → Bool
  | 0 => S
  | r + 1 => stp n b (rnd n b S r)
theorem rnd_up {n : Nat} {b : Nat → Nat → Bool} {S : Nat → Bool} {r j : Nat} (h : rnd n b S r j = true) : rnd n b S (r + 1) j = true := stp_iff.2 (.inl h)
def Still (n : Nat) (b : Nat → Nat → Bool) (S : Nat → Bool) (r : Nat) : Prop := ∀ j, j < n → rnd n b S (r + 1) j = true → rnd n b S r j = true
theorem Still.next {n : Nat} {b : Nat → Nat → Bool} {S : Nat → Bool} {r : Nat} (h : Still n b S r) : Still n b S (r + 1) := by
  intro j hj h2
  rcases stp_iff.1 h2 with h3 | ⟨k, hk, h3, h4⟩
  · exact h3
  · exact stp_iff.2 (.inr ⟨k, hk, h k hk h3, h4⟩)
theorem still_or (n : Nat) (b : Nat → Nat → Bool) (S : Nat → Bool) : ∀ r, Still n b S r ∨ r ≤ cntS n (rnd n b S r)
  | 0 => .inr (Nat.zero_le _)
  | r + 1 => by
    rcases still_or n b S r with h | h
    · exact .inl h.next
    · by_cases hs : Still n b S r
      · exact .inl hs.next
      · refine .inr ?_
        have hd : ∃ j, j < n ∧ rnd n b S r j = false ∧ rnd n b S (r + 1) j = true := by
          refine Classical.byContradiction fun hc => hs fun j hj h2 => ?_
          cases h3 : rnd n b S r j with
          | true => rfl
          | false => exact absurd ⟨j, hj, h3, h2⟩ hc
        have : cntS n (rnd n b S r) + 1 ≤ cntS n (rnd n b S (r + 1)) := cntS_lt (fun j _ hj => rnd_up hj) hd
        omega
theorem still_n (n : Nat) (b : Nat → Nat → Bool) (S : Nat → Bool) : Still n b S n := by
  rcases still_or n b S n with h | h
  · exact h
  · intro j hj _
    exact cntS_all h j hj
/-- After n rounds from the steps of i: the closure. -/
theorem rnd_pth {n : Nat} {b : Nat → Nat → Bool} {i j : Nat} (hj : j < n) : rnd n b (b i) n j = true ↔ Pth (fun x y => b x y = true) n i j := by
  constructor
  · have h : ∀ r j, rnd n b (b i) r j = true → Pth (fun x y => b x y = true) n i j := by
      intro r
      induction r with
      | zero => intro j h; exact .one h
      | succ r ih =>
        intro j h
        rcases stp_iff.1 h with h2 | ⟨k, hk, h2, h3⟩
        · exact ih j h2
        · exact .cat (ih k h2) hk (.one h3)
    exact h n j
  · have hs := still_n n b (b i)
    have h0 : ∀ r j, b i j = true → rnd n b (b i) r j = true := by
      intro r
      induction r with
      | zero => intro j h; exact h
      | succ r ih => intro j h; exact rnd_up (ih j h)
    have h : ∀ x y, Pth (fun x y => b x y = true) n x y → y < n → (x = i ∨ (x < n ∧ rnd n b (b i) n x = true)) → rnd n b (b i) n y = true := by
      intro x y hp
      induction hp with
      | one h =>
        intro hy hx
        rcases hx with rfl | ⟨hx1, hx2⟩
        · exact h0 n _ h
        · exact hs _ hy (stp_iff.2 (.inr ⟨_, hx1, hx2, h⟩))
      | cat _ hm _ ih1 ih2 =>
        intro hy hx
        exact ih2 hy (.inr ⟨hm, ih1 hm hx⟩)
    intro hp
    exact h i j hp hj (.inl rfl)
end Go.Proofs.Ytgpjgigmlgoiiaa
