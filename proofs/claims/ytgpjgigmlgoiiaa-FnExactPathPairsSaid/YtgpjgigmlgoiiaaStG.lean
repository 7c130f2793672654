/- The steps of a label in a graph, as a relation. Plain. -/
import Derived.Test.YtgpjgigmlgoiiaaSem
import Derived.Test.YtgpjgigmlgoiiaaGMem
namespace Go.Proofs.Ytgpjgigmlgoiiaa
open Go.RowKit

/-- The steps of a label in a graph. -/
def stG (es : List Ed) (l : Int) : Rl := fun i j => ∃ e ∈ es, e.l = l ∧ e.f = (i : Int) ∧ e.t = (j : Int)
theorem stG_next {n : Nat} {es : List Ed} {k : Nat} (hk : k < es.length) {l : Int} (hl : es[k].l = l) {f t : Nat} (hf : es[k].f = (f : Int)) (ht : es[k].t = (t : Int)) : AsR n (fun a b => stG (es.take k) l a b ∨ (a = f ∧ b = t)) (stG (es.take (k + 1)) l) := by
  intro a b _ _
  unfold stG
  rw [List.take_succ_eq_append_getElem hk]
  constructor
  · rintro (⟨e, h1, h2⟩ | ⟨rfl, rfl⟩)
    · exact ⟨e, List.mem_append_left _ h1, h2⟩
    · exact ⟨es[k], List.mem_append_right _ (List.mem_singleton.2 rfl), hl, hf, ht⟩
  · rintro ⟨e, h1, h2, h3, h4⟩
    rcases List.mem_append.1 h1 with h1 | h1
    · exact .inl ⟨e, h1, h2, h3, h4⟩
    · simp only [List.mem_cons, List.not_mem_nil, or_false] at h1
      subst h1
      exact .inr ⟨by omega, by omega⟩
theorem stG_skip {n : Nat} {es : List Ed} {k : Nat} (hk : k < es.length) {l : Int} (hl : es[k].l ≠ l) : AsR n (stG (es.take k) l) (stG (es.take (k + 1)) l) := by
  intro a b _ _
  unfold stG
  rw [List.take_succ_eq_append_getElem hk]
  constructor
  · rintro ⟨e, h1, h2⟩; exact ⟨e, List.mem_append_left _ h1, h2⟩
  · rintro ⟨e, h1, h2, h3, h4⟩
    rcases List.mem_append.1 h1 with h1 | h1
    · exact ⟨e, h1, h2, h3, h4⟩
    · simp only [List.mem_cons, List.not_mem_nil, or_false] at h1
      subst h1
      exact absurd h2 hl
end Go.Proofs.Ytgpjgigmlgoiiaa
