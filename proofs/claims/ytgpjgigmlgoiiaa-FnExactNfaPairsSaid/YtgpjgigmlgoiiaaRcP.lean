/- The search over a graph and an automaton. Plain. -/
import Derived.Test.YtgpjgigmlgoiiaaRch
import Derived.Test.YtgpjgigmlgoiiaaBeh
namespace Go.Proofs.Ytgpjgigmlgoiiaa
open Go.RowKit

theorem ij_ltm {n m i j : Nat} (hi : i < n) (hj : j < m) : i * m + j < n * m := by
  have h : (i + 1) * m ≤ n * m := Nat.mul_le_mul_right m hi
  rw [Nat.add_mul] at h
  omega
/-- The search: what is seen, what stands in the list. -/
structure RcI (n m : Nat) (ges arcs : List Ed) (src : Nat) (ls : List Int) (ex : Nat → Prop) (seen : List Bool) : Prop where
  len : seen.length = n * m
  at0 : seen.getD (src * m) false = true
  sound : ∀ v s, v < n → s < m → seen.getD (v * m + s) false = true → Rch ges arcs src v s
  mem : ∀ z ∈ ls, ∃ v s, v < n ∧ s < m ∧ z = ((v * m + s : Nat) : Int) ∧ seen.getD (v * m + s) false = true
  cl : ∀ v s, v < n → s < m → seen.getD (v * m + s) false = true → ((v * m + s : Nat) : Int) ∉ ls → ¬ ex (v * m + s) → ∀ v' s', Stq ges arcs v s v' s' → seen.getD (v' * m + s') false = true
theorem RcI.start {n m : Nat} {ges arcs : List Ed} {src : Nat} (hs : src < n) (hm : 0 < m) : RcI n m ges arcs src [((src * m : Nat) : Int)] (fun _ => False) ((List.replicate (n * m) false).set (src * m) true) := by
  have hlt := ij_ltm (n := n) (m := m) hs hm
  rw [Nat.add_zero] at hlt
  have hgd := fun j => gd_setB (List.replicate (n * m) false) (src * m) j true (by simpa using hlt)
  have h0 : ∀ j, (List.replicate (n * m) false).getD j false = false := fun j => by
    simp only [List.getD, List.getElem?_replicate]; split <;> rfl
  refine ⟨by simp, by rw [hgd, if_pos rfl], fun v s hv hs' h => ?_, fun z hz => ?_, fun v s hv hs' h hn => ?_⟩
  · rw [hgd] at h
    split at h
    · rename_i e
      have e2 : src * m + 0 = v * m + s := by omega
      obtain ⟨rfl, rfl⟩ := (cell_ij (n := m) hm hs').1 e2
      exact .base
    · rw [h0] at h; cases h
  · simp only [List.mem_cons, List.not_mem_nil, or_false] at hz
    exact ⟨src, 0, hs, hm, by rw [hz]; simp, by rw [hgd, if_pos (by omega)]⟩
  · rw [hgd] at h
    split at h
    · rename_i e
      exact absurd (by rw [← e]; simp) hn
    · rw [h0] at h; cases h
theorem RcI.pop {n m : Nat} {ges arcs : List Ed} {src : Nat} {z : Int} {ls : List Int} {seen : List Bool} {q : Nat} (h : RcI n m ges arcs src (z :: ls) (fun _ => False) seen) (hz : z = (q : Int)) : RcI n m ges arcs src ls (fun x => x = q) seen := by
  refine ⟨h.len, h.at0, h.sound, fun y hy => h.mem y (List.mem_cons_of_mem _ hy), fun v s hv hs hb hn hx => ?_⟩
  refine h.cl v s hv hs hb (fun hc => ?_) (fun hf => hf)
  rcases List.mem_cons.1 hc with hc | hc
  · rw [hz] at hc
    exact hx (by omega)
  · exact hn hc
theorem RcI.mark {n m : Nat} {ges arcs : List Ed} {src : Nat} {ls : List Int} {ex : Nat → Prop} {seen : List Bool} {v0 s0 v1 s1 : Nat} (h : RcI n m ges arcs src ls ex seen) (h0 : Rch ges arcs src v0 s0) (hst : Stq ges arcs v0 s0 v1 s1) (hv : v1 < n) (hs : s1 < m) :
    RcI n m ges arcs src (ls ++ [((v1 * m + s1 : Nat) : Int)]) ex (seen.set (v1 * m + s1) true) := by
  have hgd := fun j => gd_setB seen (v1 * m + s1) j true (by rw [h.len]; exact ij_ltm hv hs)
  have hup : ∀ j, seen.getD j false = true → (seen.set (v1 * m + s1) true).getD j false = true := fun j hj => by
    rw [hgd]; split
    · rfl
    · exact hj
  refine ⟨by simp [h.len], hup _ h.at0, fun v s hv' hs' hb => ?_, fun z hz => ?_, fun v s hv' hs' hb hn hx v' s' hq => ?_⟩
  · rw [hgd] at hb
    split at hb
    · rename_i e
      obtain ⟨rfl, rfl⟩ := (cell_ij (n := m) hs hs').1 e
      exact .step h0 hst
    · exact h.sound v s hv' hs' hb
  · rcases List.mem_append.1 hz with hz | hz
    · obtain ⟨v, s, h1, h2, h3, h4⟩ := h.mem z hz
      exact ⟨v, s, h1, h2, h3, hup _ h4⟩
    · simp only [List.mem_cons, List.not_mem_nil, or_false] at hz
      exact ⟨v1, s1, hv, hs, hz, by rw [hgd, if_pos rfl]⟩
  · rw [hgd] at hb
    split at hb
    · rename_i e
      exact absurd (List.mem_append_right _ (by rw [e]; simp)) hn
    · exact hup _ (h.cl v s hv' hs' hb (fun hc => hn (List.mem_append_left _ hc)) hx v' s' hq)
theorem RcI.fin {n m : Nat} {ges arcs : List Ed} {src : Nat} {ls : List Int} {seen : List Bool} {v0 s0 : Nat} (h : RcI n m ges arcs src ls (fun x => x = v0 * m + s0) seen) (hs0 : s0 < m) (hc : ∀ v' s', Stq ges arcs v0 s0 v' s' → seen.getD (v' * m + s') false = true) :
    RcI n m ges arcs src ls (fun _ => False) seen := by
  refine ⟨h.len, h.at0, h.sound, h.mem, fun v s hv hs hb hn _ v' s' hq => ?_⟩
  by_cases e : v * m + s = v0 * m + s0
  · obtain ⟨rfl, rfl⟩ := (cell_ij (n := m) hs hs0).1 e
    exact hc v' s' hq
  · exact h.cl v s hv hs hb hn e v' s' hq
theorem RcI.done {n m : Nat} {ges arcs : List Ed} {src : Nat} {seen : List Bool} (h : RcI n m ges arcs src [] (fun _ => False) seen) (hg : Rng n ges) (ha : Rng m arcs) (v s : Nat) (hv : v < n) (hs : s < m) : seen.getD (v * m + s) false = true ↔ Rch ges arcs src v s := by
  constructor
  · exact h.sound v s hv hs
  · intro hr
    have h2 := Rch.closed (Q := fun v s => v < n ∧ s < m ∧ seen.getD (v * m + s) false = true) (ges := ges) (arcs := arcs) (src := src) (v := v) (s := s)
    by_cases hsn : src < n
    · by_cases hm : 0 < m
      · refine (h2 ⟨hsn, hm, h.at0⟩ ?_ hr).2.2
        rintro v s v' s' ⟨h3, h4, h5⟩ hq
        obtain ⟨e, he, _, ht, x, hx, _, _, hxt⟩ := id hq
        have e1 := (hg e he).2
        have e2 := (ha x hx).2
        exact ⟨by omega, by omega, h.cl v s h3 h4 h5 (by simp) (fun h => h) v' s' hq⟩
      · omega
    · have h3 : n * m ≤ src * m := Nat.mul_le_mul_right m (by omega)
      have h4 := h.at0
      simp [List.getD, List.getElem?_eq_none (show seen.length ≤ src * m by rw [h.len]; exact h3)] at h4
/-- What is seen of the successors by the first i edges and, of edge i, the first k arcs. -/
def SuI (m : Nat) (ges arcs : List Ed) (v0 s0 : Nat) (i : Nat) (seen : List Bool) : Prop := ∀ e ∈ ges.take i, e.f = (v0 : Int) → ∀ x ∈ arcs, x.f = (s0 : Int) → x.l = e.l → seen.getD (e.t.toNat * m + x.t.toNat) false = true
def SuK (m : Nat) (e : Ed) (arcs : List Ed) (s0 : Nat) (k : Nat) (seen : List Bool) : Prop := ∀ x ∈ arcs.take k, x.f = (s0 : Int) → x.l = e.l → seen.getD (e.t.toNat * m + x.t.toNat) false = true
theorem SuI.next {m : Nat} {ges arcs : List Ed} {v0 s0 i : Nat} {seen : List Bool} (h : SuI m ges arcs v0 s0 i seen) (hi : i < ges.length) (hc : ges[i].f = (v0 : Int) → SuK m ges[i] arcs s0 arcs.length seen) : SuI m ges arcs v0 s0 (i + 1) seen := by
  intro e he hf x hx
  rw [List.take_succ_eq_append_getElem hi] at he
  rcases List.mem_append.1 he with he | he
  · exact h e he hf x hx
  · simp only [List.mem_cons, List.not_mem_nil, or_false] at he
    subst he
    exact hc hf x (by rw [List.take_of_length_le (Nat.le_refl _)]; exact hx)
theorem SuI.all {m : Nat} {ges arcs : List Ed} {v0 s0 : Nat} {seen : List Bool} (h : SuI m ges arcs v0 s0 ges.length seen) : ∀ v' s', Stq ges arcs v0 s0 v' s' → seen.getD (v' * m + s') false = true := by
  rintro v' s' ⟨e, he, h1, h2, x, hx, h3, h4, h5⟩
  have := h e (by rw [List.take_of_length_le (Nat.le_refl _)]; exact he) h1 x hx h3 h4
  rw [h2, h5] at this
  exact this
theorem SuK.next {m : Nat} {e : Ed} {arcs : List Ed} {s0 k : Nat} {seen : List Bool} (h : SuK m e arcs s0 k seen) (hk : k < arcs.length) (hc : arcs[k].f = (s0 : Int) → arcs[k].l = e.l → seen.getD (e.t.toNat * m + arcs[k].t.toNat) false = true) : SuK m e arcs s0 (k + 1) seen := by
  intro x hx
  rw [List.take_succ_eq_append_getElem hk] at hx
  rcases List.mem_append.1 hx with hx | hx
  · exact h x hx
  · simp only [List.mem_cons, List.not_mem_nil, or_false] at hx
    subst hx
    exact hc
theorem SuI.up {m : Nat} {ges arcs : List Ed} {v0 s0 i q : Nat} {seen : List Bool} (h : SuI m ges arcs v0 s0 i seen) (hq : q < seen.length) : SuI m ges arcs v0 s0 i (seen.set q true) := by
  intro e he hf x hx h1 h2
  rw [gd_setB _ _ _ _ hq]
  split
  · rfl
  · exact h e he hf x hx h1 h2
theorem SuK.up {m : Nat} {e : Ed} {arcs : List Ed} {s0 k q : Nat} {seen : List Bool} (h : SuK m e arcs s0 k seen) (hq : q < seen.length) : SuK m e arcs s0 k (seen.set q true) := by
  intro x hx h1 h2
  rw [gd_setB _ _ _ _ hq]
  split
  · rfl
  · exact h x hx h1 h2
/-- How many places are not seen. -/
def msB (N : Nat) (seen : List Bool) : Nat := N - cntS N (fun q => seen.getD q false)
theorem msB_le (N : Nat) (seen : List Bool) : msB N seen ≤ N := Nat.sub_le _ _
theorem msB_set {N q : Nat} {seen : List Bool} (hl : seen.length = N) (hq : q < N) (h : seen.getD q false = false) : msB N (seen.set q true) + 1 ≤ msB N seen := by
  have hgd := fun j => gd_setB seen q j true (by rw [hl]; exact hq)
  have hlt := cntS_lt (n := N) (S := fun j => seen.getD j false) (T := fun j => (seen.set q true).getD j false) (fun j _ hj => by
    show (seen.set q true).getD j false = true
    rw [hgd]; split
    · rfl
    · exact hj) ⟨q, hq, h, by show (seen.set q true).getD q false = true; rw [hgd, if_pos rfl]⟩
  have hle := cntS_le N (fun j => (seen.set q true).getD j false)
  unfold msB
  omega
def boolC : Option Value → Bool
  | some (.bool b) => b
  | _ => false
def msBW (N g : Nat) (w : World) : Nat := N - cntS N (fun q => boolC (w.cell? ⟨g, q, none⟩))
theorem msBW_eq {N g b : Nat} {w : World} {c : Nat} {seen : List Bool} (hl : seen.length = N) (h : w.ownsRow b 4 1 (.slice (some ⟨g, 0, none⟩) N c) N (bls seen)) : msBW N g w = msB N seen := by
  unfold msBW msB
  congr 1
  refine cntS_congr (fun q hq => ?_)
  have hc := h.cellAt q (by omega)
  rw [bls_at (by omega)] at hc
  rw [hc]
  rfl
def lenV : Value → Nat
  | .slice _ n _ => n
  | _ => 0
end Go.Proofs.Ytgpjgigmlgoiiaa
