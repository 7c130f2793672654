/- NfaTakes: the program's function. Conditions: the labels' range and the sizes of the lengths. -/
import Derived.Test.YtgpjgigmlgoiiaaMove
import Derived.Test.YtgpjgigmlgoiiaaNfaOk
namespace Go.Proofs.Ytgpjgigmlgoiiaa
open Go.RowKit

/-- The set of states behind some letters. -/
def runN (es : List Ed) (word : List UInt8) : Nat := word.foldl (fun S c => moveN es S (c.toNat : Int)) 1
theorem runN_next {es : List Ed} {l : List UInt8} {k : Nat} (h : k < l.length) : runN es (l.take (k + 1)) = moveN es (runN es (l.take k)) (l[k].toNat : Int) := by
  unfold runN
  rw [List.take_succ_eq_append_getElem h, List.foldl_append]
  rfl
theorem NOk.sm {s : Int} {es : List Ed} {bs : List Bool} (h : NOk s es bs) : ∀ e ∈ es, (0 ≤ e.f ∧ e.f < s) ∧ (0 ≤ e.t ∧ e.t < s) ∧ (97 ≤ e.l ∧ e.l ≤ 100) := by
  intro e he
  obtain ⟨i, hi, rfl⟩ := List.getElem_of_mem he
  obtain ⟨h1, h2, h3⟩ := (h.2.2 i hi hi).1
  simp only [vtxB, lblB, Bool.and_eq_true, decide_eq_true_eq] at h1 h2 h3
  exact ⟨h1, h2, h3⟩
theorem NOk.sm2 {s : Int} {es : List Ed} {bs : List Bool} (h : NOk s es bs) : ∀ e ∈ es, Sm e := fun e he => by
  obtain ⟨h1, h2, h3⟩ := h.sm e he
  have := h.1
  exact ⟨h1.1, by omega, by omega, by omega, h2.1, by omega⟩
theorem InS.move {es : List Ed} {S m : Nat} {l : Int} (h : ∀ e ∈ es, e.t.toNat < m) : InS (moveN es S l) m := fun i hi => by
  rw [moveN_bit, List.any_eq_true] at hi
  obtain ⟨e, he, h2⟩ := hi
  simp only [Bool.and_eq_true, decide_eq_true_eq] at h2
  rw [← h2.2]
  exact h e he
theorem InS.one {m : Nat} (h : 0 < m) : InS 1 m := fun i hi => by
  rcases Nat.eq_zero_or_pos i with h0 | h0
  · omega
  · rw [show (1 : Nat) = 2 ^ 0 by rfl, Nat.testBit_two_pow] at hi
    simp at hi
    omega
theorem NOk.inT {s : Int} {es : List Ed} {bs : List Bool} (h : NOk s es bs) : ∀ e ∈ es, e.t.toNat < bs.length := fun e he => by
  obtain ⟨h1, h2, h3⟩ := h.sm e he
  have := h.2.1
  omega
/-- Does the automaton take the word. -/
noncomputable def tkB (s : Int) (es : List Ed) (bs : List Bool) (word : ByteArray) : Bool := PP (word.size ≤ 12 ∧ NOk s es bs) && accB bs (runN es word.data.toList)
theorem tkB_no {s : Int} {es : List Ed} {bs : List Bool} {word : ByteArray} (h : ¬ (word.size ≤ 12 ∧ NOk s es bs)) : tkB s es bs word = false := by unfold tkB; rw [PP_no h]; rfl
theorem tkB_yes {s : Int} {es : List Ed} {bs : List Bool} {word : ByteArray} (h1 : word.size ≤ 12) (h2 : NOk s es bs) : tkB s es bs word = accB bs (runN es word.data.toList) := by unfold tkB; rw [PP_yes ⟨h1, h2⟩]; rfl

end Go.Proofs.Ytgpjgigmlgoiiaa
