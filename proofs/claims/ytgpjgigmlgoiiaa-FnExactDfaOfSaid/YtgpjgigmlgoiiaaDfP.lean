/- The sets of states that are met, one by one. Plain. -/
import Derived.Test.YtgpjgigmlgoiiaaTakes
namespace Go.Proofs.Ytgpjgigmlgoiiaa
open Go.RowKit

def ixN : List Nat → Nat → Nat
  | [], _ => 0
  | a :: l, x => if a = x then 0 else ixN l x + 1
theorem ixN_at : ∀ (l : List Nat), l.Nodup → ∀ (k : Nat) (h : k < l.length), ixN l l[k] = k
  | a :: l, _, 0, _ => by simp [ixN]
  | a :: l, hn, k + 1, h => by
    have h2 := List.nodup_cons.1 hn
    have hk : k < l.length := by simpa using h
    have ih := ixN_at l h2.2 k hk
    simp only [List.getElem_cons_succ, ixN]
    rw [if_neg (fun e => h2.1 (by rw [e]; exact List.getElem_mem hk)), ih]
abbrev DfS := List Nat × List Ed
/-- One letter from the set with the number i. -/
def dfStep (es : List Ed) (i : Nat) (l : Int) (st : DfS) : DfS :=
  if moveN es (st.1.getD i 0) l = 0 then st
  else if moveN es (st.1.getD i 0) l ∈ st.1 then (st.1, st.2 ++ [⟨i, l, (ixN st.1 (moveN es (st.1.getD i 0) l) : Nat)⟩])
  else (st.1 ++ [moveN es (st.1.getD i 0) l], st.2 ++ [⟨i, l, (st.1.length : Nat)⟩])
/-- The first t letters. -/
def dfL (es : List Ed) (i : Nat) (st : DfS) : Nat → DfS
  | 0 => st
  | t + 1 => dfStep es i (97 + (t : Int)) (dfL es i st t)
def dfGo (es : List Ed) : Nat → Nat → DfS → Option DfS
  | 0, _, st => some st
  | f + 1, i, st => if i < st.1.length then (if 24 < (dfL es i st 4).1.length then none else dfGo es f (i + 1) (dfL es i st 4)) else some st
def dfR (es : List Ed) : Option DfS := dfGo es 25 0 ([1], [])
theorem dfStep_len (es : List Ed) (i : Nat) (l : Int) (st : DfS) : st.1.length ≤ (dfStep es i l st).1.length ∧ (dfStep es i l st).1.length ≤ st.1.length + 1 := by
  unfold dfStep
  split
  · simp
  · split <;> simp
theorem dfStep_as (es : List Ed) (i : Nat) (l : Int) (st : DfS) : (dfStep es i l st).2.length ≤ st.2.length + 1 := by
  unfold dfStep
  split
  · simp
  · split <;> simp
theorem dfL_len (es : List Ed) (i : Nat) (st : DfS) : ∀ t, st.1.length ≤ (dfL es i st t).1.length ∧ (dfL es i st t).1.length ≤ st.1.length + t
  | 0 => ⟨Nat.le_refl _, Nat.le_refl _⟩
  | t + 1 => by
    have h := dfL_len es i st t
    have h2 := dfStep_len es i (97 + (t : Int)) (dfL es i st t)
    simp only [dfL]
    omega
theorem dfL_up (es : List Ed) (i : Nat) (st : DfS) {t u : Nat} (h : t ≤ u) : (dfL es i st t).1.length ≤ (dfL es i st u).1.length := by
  induction u with
  | zero => obtain rfl : t = 0 := by omega
            exact Nat.le_refl _
  | succ u ih =>
    by_cases e : t = u + 1
    · subst e; exact Nat.le_refl _
    · have h1 := ih (by omega)
      have h2 := (dfStep_len es i (97 + (u : Int)) (dfL es i st u)).1
      simp only [dfL]
      omega
theorem dfL_as (es : List Ed) (i : Nat) (st : DfS) : ∀ t, (dfL es i st t).2.length ≤ st.2.length + t
  | 0 => Nat.le_refl _
  | t + 1 => by
    have h := dfL_as es i st t
    have h2 := dfStep_as es i (97 + (t : Int)) (dfL es i st t)
    simp only [dfL]
    omega
theorem getD_app {l : List Nat} {x i : Nat} (h : i < l.length) : (l ++ [x]).getD i 0 = l.getD i 0 := by
  simp [List.getD, List.getElem?_append_left h]
theorem dfStep_at (es : List Ed) (i : Nat) (l : Int) (st : DfS) {j : Nat} (h : j < st.1.length) : (dfStep es i l st).1.getD j 0 = st.1.getD j 0 := by
  unfold dfStep
  split
  · rfl
  · split
    · rfl
    · exact getD_app h
theorem dfL_at (es : List Ed) (i : Nat) (st : DfS) {j : Nat} (h : j < st.1.length) : ∀ t, (dfL es i st t).1.getD j 0 = st.1.getD j 0
  | 0 => rfl
  | t + 1 => by
    have h2 := (dfL_len es i st t).1
    simp only [dfL]
    rw [dfStep_at _ _ _ _ (by omega), dfL_at es i st h t]
/-- Sets of states: apart, and within the states. -/
structure DfK (m : Nat) (st : DfS) : Prop where
  nd : st.1.Nodup
  lo : ∀ S ∈ st.1, S < 16777216 ∧ InS S m
theorem DfK.at_ {m : Nat} {st : DfS} (h : DfK m st) (j : Nat) : st.1.getD j 0 < 16777216 ∧ InS (st.1.getD j 0) m := by
  by_cases hj : j < st.1.length
  · have e : st.1.getD j 0 = st.1[j] := by simp [List.getD, hj]
    rw [e]
    exact h.lo _ (List.getElem_mem hj)
  · have e : st.1.getD j 0 = 0 := by simp [List.getD, List.getElem?_eq_none (show st.1.length ≤ j by omega)]
    rw [e]
    exact ⟨by omega, fun i hi => by simp at hi⟩
theorem DfK.step {m : Nat} {st : DfS} {es : List Ed} (h : DfK m st) (hsm : ∀ e ∈ es, Sm e) (ht : ∀ e ∈ es, e.t.toNat < m) (i : Nat) (l : Int) : DfK m (dfStep es i l st) := by
  unfold dfStep
  split
  · exact h
  · split
    · exact ⟨h.nd, h.lo⟩
    · rename_i h2
      refine ⟨List.nodup_append.2 ⟨h.nd, (by simp), fun a ha b hb e => ?_⟩, fun S hS => ?_⟩
      · simp only [List.mem_cons, List.not_mem_nil, or_false] at hb
        subst hb
        subst e
        exact h2 ha
      · rcases List.mem_append.1 hS with hS | hS
        · exact h.lo S hS
        · simp only [List.mem_cons, List.not_mem_nil, or_false] at hS
          subst hS
          exact ⟨moveN_lt _ _ hsm, InS.move ht⟩
theorem DfK.letters {m : Nat} {st : DfS} {es : List Ed} (h : DfK m st) (hsm : ∀ e ∈ es, Sm e) (ht : ∀ e ∈ es, e.t.toNat < m) (i : Nat) : ∀ t, DfK m (dfL es i st t)
  | 0 => h
  | t + 1 => (DfK.letters h hsm ht i t).step hsm ht i _
theorem DfK.start {m : Nat} (hm : 0 < m) : DfK m ([1], []) := ⟨(by simp), fun S hS => by
  simp only [List.mem_cons, List.not_mem_nil, or_false] at hS
  subst hS
  exact ⟨by omega, InS.one hm⟩⟩
theorem DfK.idx {m : Nat} {st : DfS} (h : DfK m st) {k x : Nat} (hk : k < st.1.length) (e : st.1.getD k 0 = x) : x ∈ st.1 ∧ ixN st.1 x = k := by
  have e2 : st.1[k] = x := by rw [← e]; simp [List.getD, hk]
  subst e2
  exact ⟨List.getElem_mem hk, ixN_at st.1 h.nd k hk⟩
/-- The ends of the first k sets. -/
def enL (bs : List Bool) (sets : List Nat) (k : Nat) : List Bool := (List.range k).map (fun j => accB bs (sets.getD j 0))
theorem enL_succ (bs : List Bool) (sets : List Nat) (k : Nat) : enL bs sets (k + 1) = enL bs sets k ++ [accB bs (sets.getD k 0)] := by simp [enL, List.range_succ]
theorem enL_len (bs : List Bool) (sets : List Nat) (k : Nat) : (enL bs sets k).length = k := by simp [enL]
theorem enL_congr {bs : List Bool} {s t : List Nat} {k : Nat} (h : ∀ j, j < k → s.getD j 0 = t.getD j 0) : enL bs s k = enL bs t k := by
  unfold enL
  exact List.map_congr_left (fun j hj => by rw [h j (List.mem_range.1 hj)])
end Go.Proofs.Ytgpjgigmlgoiiaa
