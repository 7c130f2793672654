/- l04Put: the reference's insertion of an edge. Conditions: the size of a length. The reference's GraphAdd and its copy of a graph. Conditions: the labels' range and the size of a length. The order of edges; inserting an edge into a graph in order. Plain lists; no conditions. -/
import Derived.Test.YtjlekcoikceidaaSGraphOk
import Derived.Test.YtjlekcoikceidaaBlk
import Derived.Test.YtjlekcoikceidaaApp
import Derived.Test.YtjlekcoikceidaaMPart
namespace Go.Proofs.Ytjlekcoikceidaa
open Go.RowKit

def putE (es : List Ed) (x : Ed) : List Ed := (es.filter (fun y => edLess y x) ++ [x]) ++ es.filter (fun y => edLess x y)
section
variable {w wr wr' w3 : World} {x y : Ed} {v v1 : Value} {ks : List Ed} {o : Obj}
end
theorem filt_next (p : Ed → Bool) {es : List Ed} {k : Nat} (h : k < es.length) : (es.take (k + 1)).filter p = (es.take k).filter p ++ (if p es[k] = true then [es[k]] else []) := by
  rw [List.take_succ_eq_append_getElem h, List.filter_append]
  congr 1
  by_cases e : p es[k] = true
  · rw [if_pos e]; simp [e]
  · rw [if_neg e]; simp [e]

end Go.Proofs.Ytjlekcoikceidaa
namespace Go.Proofs.Ytjlekcoikceidaa
open Go.RowKit

theorem PP_true {p : Prop} (h : PP p = true) : p := by
  unfold PP at h
  exact @of_decide_eq_true _ (Classical.propDecidable _) h
def gaP (s : Int) (es : List Ed) (x : Ed) : Prop := GOk s es ∧ GOk s (putE es x)
noncomputable def gaB (s : Int) (es : List Ed) (x : Ed) : Bool := PP (gaP s es x)
noncomputable def gaL (s : Int) (es : List Ed) (x : Ed) : List Ed := if gaB s es x then putE es x else es
theorem putE_len (es : List Ed) (x : Ed) : (putE es x).length ≤ 2 * es.length + 1 := by
  unfold putE
  have h1 := List.length_filter_le (fun y => edLess y x) es
  have h2 := List.length_filter_le (fun y => edLess x y) es
  simp only [List.length_append, List.length_cons, List.length_nil]
  omega

theorem new_blkd (w : World) (cs : Array Value) (t : TypeId) : (w.alloc (.cells cs t)).drew.heap[w.heap.size]? = some (.cells cs t (0, 0)) := heap_alloc_new w _
end Go.Proofs.Ytjlekcoikceidaa
namespace Go.Proofs.Ytjlekcoikceidaa
open Go.RowKit

theorem edLess_irrefl (a : Ed) : edLess a a = false := by simp [edLess]
theorem edLess_iff (a b : Ed) : edLess a b = true ↔ a.f < b.f ∨ (a.f = b.f ∧ (a.l < b.l ∨ (a.l = b.l ∧ a.t < b.t))) := by
  unfold edLess
  by_cases h1 : a.f = b.f
  · by_cases h2 : a.l = b.l
    · simp [h1, h2]
    · simp [h1, h2]
  · simp [h1]
theorem edLess_trans {a b c : Ed} (h1 : edLess a b = true) (h2 : edLess b c = true) : edLess a c = true := by
  rw [edLess_iff] at *
  omega
theorem edLess_tri (a b : Ed) : edLess a b = true ∨ a = b ∨ edLess b a = true := by
  rw [edLess_iff, edLess_iff]
  obtain ⟨af, al, at_⟩ := a
  obtain ⟨bf, bl, bt⟩ := b
  simp only [Ed.mk.injEq]
  omega
theorem edLess_asymm {a b : Ed} (h : edLess a b = true) : edLess b a = false := by
  cases h2 : edLess b a with
  | false => rfl
  | true => have := edLess_trans h h2; rw [edLess_irrefl] at this; cases this
/-- Edges in order. -/
def Asc (es : List Ed) : Prop := es.Pairwise (fun a b => edLess a b = true)
theorem asc_of_next {es : List Ed} (h : ∀ i (hi : i < es.length) j (hj : j + 1 = i), edLess (es[j]'(by omega)) es[i] = true) : Asc es := by
  unfold Asc
  rw [List.pairwise_iff_getElem]
  intro i j hi hj hij
  obtain ⟨d, rfl⟩ : ∃ d, j = i + 1 + d := ⟨j - i - 1, by omega⟩
  induction d with
  | zero => exact h (i + 1) hj i rfl
  | succ d ih => exact edLess_trans (ih (by omega) (by omega)) (h (i + 1 + (d + 1)) hj (i + 1 + d) rfl)
theorem gOk_iff {s : Int} {es : List Ed} : GOk s es ↔ (1 ≤ s ∧ s ≤ 12) ∧ es.length ≤ 40 ∧ (∀ e ∈ es, EdOk s e) ∧ Asc es := by
  constructor
  · rintro ⟨h1, h2, h3⟩
    refine ⟨h1, h2, fun e he => ?_, asc_of_next fun i hi j hj => (h3 i hi).2 j hj⟩
    obtain ⟨i, hi, rfl⟩ := List.getElem_of_mem he
    exact (h3 i hi).1
  · rintro ⟨h1, h2, h3, h4⟩
    unfold Asc at h4
    rw [List.pairwise_iff_getElem] at h4
    exact ⟨h1, h2, fun i hi => ⟨h3 _ (List.getElem_mem hi), fun j hj => h4 j i (by omega) hi (by omega)⟩⟩
theorem asc_put {es : List Ed} (h : Asc es) (x : Ed) : Asc (putE es x) := by
  unfold putE Asc
  rw [List.pairwise_append, List.pairwise_append]
  refine ⟨⟨List.Pairwise.filter _ h, List.pairwise_singleton _ _, ?_⟩, List.Pairwise.filter _ h, ?_⟩
  · intro a ha b hb
    simp only [List.mem_filter] at ha
    simp only [List.mem_singleton] at hb
    subst hb
    exact ha.2
  · intro a ha b hb
    simp only [List.mem_append, List.mem_filter, List.mem_singleton] at ha hb
    rcases ha with ha | rfl
    · exact edLess_trans ha.2 hb.2
    · exact hb.2
theorem mem_put {es : List Ed} {x y : Ed} : y ∈ putE es x ↔ y = x ∨ y ∈ es := by
  unfold putE
  simp only [List.mem_append, List.mem_filter, List.mem_singleton]
  constructor
  · rintro ((⟨h, _⟩ | h) | ⟨h, _⟩)
    · exact .inr h
    · exact .inl h
    · exact .inr h
  · rintro (h | h)
    · exact .inl (.inr h)
    · rcases edLess_tri y x with h1 | h1 | h1
      · exact .inl (.inl ⟨h, h1⟩)
      · exact .inl (.inr h1)
      · exact .inr ⟨h, h1⟩
theorem filt_two (p q : Ed → Bool) (hpq : ∀ y, p y = true → q y = false) : ∀ es : List Ed, (es.filter p).length + (es.filter q).length ≤ es.length
  | [] => by simp
  | y :: r => by
    have ih := filt_two p q hpq r
    by_cases h1 : p y = true
    · have h2 := hpq y h1
      simp [h1, h2]
      omega
    · by_cases h2 : q y = true
      · simp [h1, h2]
        omega
      · simp [h1, h2]
        omega
theorem put_len (es : List Ed) (x : Ed) : (putE es x).length ≤ es.length + 1 ∧ 1 ≤ (putE es x).length := by
  have := filt_two (fun y => edLess y x) (fun y => edLess x y) (fun y h => edLess_asymm h) es
  unfold putE
  simp only [List.length_append, List.length_singleton]
  omega
theorem gOk_put {s : Int} {es : List Ed} {x : Ed} (h : GOk s es) (hx : EdOk s x) (hl : es.length < 40) : GOk s (putE es x) := by
  rw [gOk_iff] at h ⊢
  obtain ⟨h1, h2, h3, h4⟩ := h
  refine ⟨h1, by have := (put_len es x).1; omega, fun e he => ?_, asc_put h4 x⟩
  rcases mem_put.1 he with rfl | he
  · exact hx
  · exact h3 e he
theorem gOk_nil {s : Int} (h1 : 1 ≤ s) (h2 : s ≤ 12) : GOk s [] := ⟨⟨h1, h2⟩, by simp, fun i hi => by simp at hi⟩
theorem gaL_put {s : Int} {es : List Ed} {x : Ed} (h : GOk s es) (hx : EdOk s x) (hl : es.length < 40) : gaL s es x = putE es x := by
  unfold gaL gaB
  rw [PP_yes ⟨h, gOk_put h hx hl⟩]
  rfl
/-- Two lists in order with the same members are one. -/
theorem asc_ext : ∀ {es fs : List Ed}, Asc es → Asc fs → (∀ y, y ∈ es ↔ y ∈ fs) → es = fs
  | [], [], _, _, _ => rfl
  | [], y :: r, _, _, h => absurd ((h y).2 (by simp)) (by simp)
  | y :: r, [], _, _, h => absurd ((h y).1 (by simp)) (by simp)
  | a :: r, b :: q, h1, h2, h => by
    unfold Asc at h1 h2
    rw [List.pairwise_cons] at h1 h2
    have hab : a = b := by
      rcases List.mem_cons.1 ((h a).1 (by simp)) with h3 | h3
      · exact h3
      · rcases List.mem_cons.1 ((h b).2 (by simp)) with h4 | h4
        · exact h4.symm
        · have h5 := edLess_trans (h1.1 b h4) (h2.1 a h3)
          rw [edLess_irrefl] at h5
          cases h5
    subst hab
    congr 1
    refine asc_ext h1.2 h2.2 fun y => ?_
    constructor
    · intro hy
      rcases List.mem_cons.1 ((h y).1 (by simp [hy])) with h3 | h3
      · subst h3
        have := h1.1 y hy
        rw [edLess_irrefl] at this
        cases this
      · exact h3
    · intro hy
      rcases List.mem_cons.1 ((h y).2 (by simp [hy])) with h3 | h3
      · subst h3
        have := h2.1 y hy
        rw [edLess_irrefl] at this
        cases this
      · exact h3
theorem put_same {es : List Ed} {x : Ed} (h : Asc es) (hx : x ∈ es) : putE es x = es :=
  asc_ext (asc_put h x) h fun y => by
    rw [mem_put]
    constructor
    · rintro (rfl | h)
      · exact hx
      · exact h
    · exact .inr
end Go.Proofs.Ytjlekcoikceidaa
