/- Reachability in a graph by an automaton; sets of bits that grow. Plain. -/
import Derived.Test.YtgpjgigmlgoiiaaRnd
import Derived.Test.YtgpjgigmlgoiiaaMove
import Derived.Test.YtgpjgigmlgoiiaaThen
namespace Go.Proofs.Ytgpjgigmlgoiiaa
open Go.RowKit

/-- One step of a graph and an automaton. -/
def Stq (ges arcs : List Ed) (v s v' s' : Nat) : Prop := ∃ e ∈ ges, e.f = (v : Int) ∧ e.t = (v' : Int) ∧ ∃ x ∈ arcs, x.f = (s : Int) ∧ x.l = e.l ∧ x.t = (s' : Int)
/-- What is reached from a vertex in state 0. -/
inductive Rch (ges arcs : List Ed) (src : Nat) : Nat → Nat → Prop
  | base : Rch ges arcs src src 0
  | step {v s v' s' : Nat} : Rch ges arcs src v s → Stq ges arcs v s v' s' → Rch ges arcs src v' s'
theorem Rch.closed {ges arcs : List Ed} {src : Nat} {Q : Nat → Nat → Prop} (h0 : Q src 0) (hc : ∀ v s v' s', Q v s → Stq ges arcs v s v' s' → Q v' s') {v s : Nat} (h : Rch ges arcs src v s) : Q v s := by
  induction h with
  | base => exact h0
  | step _ hs ih => exact hc _ _ _ _ ih hs
/-- All edges and arcs lie within n places and m states. -/
def Rng (n : Nat) (es : List Ed) : Prop := ∀ e ∈ es, (0 ≤ e.f ∧ e.f < n) ∧ (0 ≤ e.t ∧ e.t < n)
theorem Rch.rng {n m : Nat} {ges arcs : List Ed} {src : Nat} (hg : Rng n ges) (ha : Rng m arcs) (hs : src < n) (hm : 0 < m) {v s : Nat} (h : Rch ges arcs src v s) : v < n ∧ s < m := by
  refine Rch.closed (Q := fun v s => v < n ∧ s < m) ⟨hs, hm⟩ ?_ h
  rintro v s v' s' _ ⟨e, he, _, ht, x, hx, _, _, hxt⟩
  have h1 := (hg e he).2
  have h2 := (ha x hx).2
  omega
theorem move_iff (arcs : List Ed) (S : Nat) (l : Int) (j : Nat) (ha : ∀ x ∈ arcs, 0 ≤ x.f ∧ 0 ≤ x.t) : (moveN arcs S l).testBit j = true ↔ ∃ x ∈ arcs, x.l = l ∧ S.testBit x.f.toNat = true ∧ x.t = (j : Int) := by
  rw [moveN_bit, List.any_eq_true]
  constructor
  · rintro ⟨x, hx, h⟩
    rw [Bool.and_eq_true] at h
    obtain ⟨h1, h2⟩ := h
    unfold mvB at h1
    rw [Bool.and_eq_true] at h1
    have := of_decide_eq_true h2
    have := ha x hx
    exact ⟨x, hx, of_decide_eq_true h1.1, h1.2, by omega⟩
  · rintro ⟨x, hx, h1, h2, h3⟩
    refine ⟨x, hx, ?_⟩
    unfold mvB
    rw [h1, h2, h3]
    simp
/-- The sets so far. -/
structure StI (n : Nat) (ges arcs : List Ed) (src : Nat) (rs : List Nat) : Prop where
  len : rs.length = n
  lo : ∀ v, rs.getD v 0 < 16777216
  at0 : RB rs src 0
  sound : ∀ v s, v < n → RB rs v s → Rch ges arcs src v s
theorem StI.step {n : Nat} {ges arcs : List Ed} {src : Nat} {rs : List Nat} (h : StI n ges arcs src rs) (hsm : ∀ x ∈ arcs, Sm x) {e : Ed} (he : e ∈ ges) {f t : Nat} (hf : e.f = (f : Int)) (ht : e.t = (t : Int)) (hfn : f < n) (htn : t < n) :
    StI n ges arcs src (rs.set t (rs.getD t 0 ||| moveN arcs (rs.getD f 0) e.l)) := by
  have hlt := moveN_lt (rs.getD f 0) e.l hsm
  have hgd := fun j => gd_set rs t j (rs.getD t 0 ||| moveN arcs (rs.getD f 0) e.l) (by rw [h.len]; exact htn)
  refine ⟨by simp [h.len], fun v => ?_, ?_, fun v s hv hb => ?_⟩
  · rw [hgd]
    split
    · exact Nat.or_lt_two_pow (n := 24) (h.lo t) hlt
    · exact h.lo v
  · unfold RB
    rw [hgd]
    split
    · rename_i e1; subst e1
      rw [Nat.testBit_or, Bool.or_eq_true]
      exact .inl h.at0
    · exact h.at0
  · unfold RB at hb
    rw [hgd] at hb
    split at hb
    · rename_i e1; subst e1
      rw [Nat.testBit_or, Bool.or_eq_true] at hb
      rcases hb with hb | hb
      · exact h.sound _ s hv hb
      · obtain ⟨x, hx, h1, h2, h3⟩ := (move_iff arcs _ _ _ (fun x hx => ⟨(hsm x hx).1, (hsm x hx).2.2.2.2.1⟩)).1 hb
        have hx0 := (hsm x hx).1
        refine .step (h.sound f x.f.toNat hfn h2) ⟨e, he, hf, ht, x, hx, by omega, h1, h3⟩
    · exact h.sound v s hv hb
/-- The first k edges lead to nothing new. -/
def ClTo (ges arcs : List Ed) (rs : List Nat) (k : Nat) : Prop := ∀ e ∈ ges.take k, ∀ s, (moveN arcs (rs.getD e.f.toNat 0) e.l).testBit s = true → RB rs e.t.toNat s
theorem ClTo.next {ges arcs : List Ed} {rs : List Nat} {k : Nat} (h : ClTo ges arcs rs k) (hk : k < ges.length) (hc : ∀ s, (moveN arcs (rs.getD ges[k].f.toNat 0) ges[k].l).testBit s = true → RB rs ges[k].t.toNat s) : ClTo ges arcs rs (k + 1) := by
  intro e he
  rw [List.take_succ_eq_append_getElem hk] at he
  rcases List.mem_append.1 he with he | he
  · exact h e he
  · simp only [List.mem_cons, List.not_mem_nil, or_false] at he
    subst he
    exact hc
theorem StI.done {n : Nat} {ges arcs : List Ed} {src : Nat} {rs : List Nat} (h : StI n ges arcs src rs) (hsm : ∀ x ∈ arcs, Sm x) (hc : ClTo ges arcs rs ges.length) (v s : Nat) (hv : v < n) : RB rs v s ↔ Rch ges arcs src v s := by
  constructor
  · exact h.sound v s hv
  · intro hr
    refine Rch.closed (Q := fun v s => RB rs v s) h.at0 ?_ hr
    rintro v s v' s' hb ⟨e, he, h1, h2, x, hx, h3, h4, h5⟩
    have h6 := hc e (by rw [List.take_of_length_le (Nat.le_refl _)]; exact he) s' ((move_iff arcs _ _ _ (fun x hx => ⟨(hsm x hx).1, (hsm x hx).2.2.2.2.1⟩)).2 ⟨x, hx, h4, by rw [h1, h3]; exact hb, h5⟩)
    rw [h2] at h6
    exact h6
/-- How many bits are not set. -/
def msr (n : Nat) (rs : List Nat) : Nat := n * 24 - cntS (n * 24) (fun q => (rs.getD (q / 24) 0).testBit (q % 24))
theorem msr_step {n : Nat} {rs : List Nat} {t T : Nat} (hl : rs.length = n) (ht : t < n) (hT : T < 16777216) (hnew : ∃ j, T.testBit j = true ∧ (rs.getD t 0).testBit j = false) : msr n (rs.set t (rs.getD t 0 ||| T)) < msr n rs := by
  obtain ⟨j, h1, h2⟩ := hnew
  have hj : j < 24 := by
    refine Classical.byContradiction fun hc => ?_
    have : T.testBit j = false := Nat.testBit_lt_two_pow (Nat.lt_of_lt_of_le hT (show 16777216 ≤ 2 ^ j from by rw [show 16777216 = 2 ^ 24 by rfl]; exact Nat.pow_le_pow_right (by omega) (by omega)))
    rw [this] at h1
    cases h1
  have hgd := fun j => gd_set rs t j (rs.getD t 0 ||| T) (by rw [hl]; exact ht)
  have hlt := cntS_lt (n := n * 24) (S := fun q => (rs.getD (q / 24) 0).testBit (q % 24)) (T := fun q => ((rs.set t (rs.getD t 0 ||| T)).getD (q / 24) 0).testBit (q % 24)) (fun q _ hq => by
    show ((rs.set t (rs.getD t 0 ||| T)).getD (q / 24) 0).testBit (q % 24) = true
    rw [hgd]
    split
    · rename_i e1
      rw [Nat.testBit_or, Bool.or_eq_true]
      exact .inl (by rw [e1]; exact hq)
    · exact hq) ⟨t * 24 + j, by
      have : (t + 1) * 24 ≤ n * 24 := Nat.mul_le_mul_right 24 ht
      omega, by
      show (rs.getD ((t * 24 + j) / 24) 0).testBit ((t * 24 + j) % 24) = false
      rw [show (t * 24 + j) / 24 = t by omega, show (t * 24 + j) % 24 = j by omega]
      exact h2, by
      show ((rs.set t (rs.getD t 0 ||| T)).getD ((t * 24 + j) / 24) 0).testBit ((t * 24 + j) % 24) = true
      rw [show (t * 24 + j) / 24 = t by omega, show (t * 24 + j) % 24 = j by omega, hgd, if_pos rfl, Nat.testBit_or, Bool.or_eq_true]
      exact .inr h1⟩
  have hle := cntS_le (n * 24) (fun q => ((rs.set t (rs.getD t 0 ||| T)).getD (q / 24) 0).testBit (q % 24))
  unfold msr
  omega
/-- The same, out of the cells. -/
def natC : Option Value → Nat
  | some (.int _ z) => z.toNat
  | _ => 0
def msrW (n g : Nat) (w : World) : Nat := n * 24 - cntS (n * 24) (fun q => (natC (w.cell? ⟨g, q / 24, none⟩)).testBit (q % 24))
theorem cntS_congr {n : Nat} {S T : Nat → Bool} (h : ∀ j, j < n → S j = T j) : cntS n S = cntS n T := Nat.le_antisymm (cntS_mono (fun j hj hs => by rw [← h j hj]; exact hs)) (cntS_mono (fun j hj hs => by rw [h j hj]; exact hs))
theorem msrW_eq {n g b : Nat} {w : World} {c : Nat} {rs : List Nat} (hl : rs.length = n) (h : w.ownsRow b 80 1 (.slice (some ⟨g, 0, none⟩) n c) n (u32s rs)) : msrW n g w = msr n rs := by
  unfold msrW msr
  congr 1
  refine cntS_congr (fun q hq => ?_)
  have hc := h.cellAt (q / 24) (by omega)
  rw [u32s_at (by omega)] at hc
  rw [hc]
  rfl
/-- The bits of one set that are not in another. -/
theorem andNot_bits (a b : Nat) (ha : a < 4294967296) (hb : b < 4294967296) : (bits .andNot .u32 (a : Int) (b : Int) != 0) = true ↔ ∃ j, a.testBit j = true ∧ b.testBit j = false := by
  have hj : ∀ j, (a &&& (4294967295 - b)).testBit j = (a.testBit j && !b.testBit j) := by
    intro j
    have h1 : 4294967295 - b = 2 ^ 32 - (b + 1) := by omega
    rw [Nat.testBit_and, h1, Nat.testBit_two_pow_sub_succ (by omega)]
    by_cases hlt : j < 32
    · simp [hlt]
    · have h2 : a.testBit j = false := Nat.testBit_lt_two_pow (Nat.lt_of_lt_of_le ha (show 4294967296 ≤ 2 ^ j from by rw [show 4294967296 = 2 ^ 32 by rfl]; exact Nat.pow_le_pow_right (by omega) (by omega)))
      rw [h2]; simp
  rw [u32_andNot_nat a b ha hb]
  constructor
  · intro h
    refine Classical.byContradiction fun hc => ?_
    have hz : a &&& (4294967295 - b) = 0 := by
      apply Nat.eq_of_testBit_eq
      intro j
      rw [hj, Nat.zero_testBit]
      cases h1 : a.testBit j with
      | false => rfl
      | true =>
        cases h2 : b.testBit j with
        | true => rfl
        | false => exact absurd ⟨j, h1, h2⟩ hc
    rw [hz] at h
    simp at h
  · rintro ⟨j, h1, h2⟩
    rw [bne_iff_ne]
    intro hz
    have hz2 : a &&& (4294967295 - b) = 0 := by omega
    have h3 := hj j
    rw [hz2, Nat.zero_testBit, h1, h2] at h3
    simp at h3
end Go.Proofs.Ytgpjgigmlgoiiaa
