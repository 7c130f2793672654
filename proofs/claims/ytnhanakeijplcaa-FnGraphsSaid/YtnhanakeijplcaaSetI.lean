/- Ints in ascending order, each once: by insertion, and by sorting and compacting. Plain; no program. -/
import Derived.Test.YtnhanakeijplcaaSortI
namespace Go.Proofs.Ytnhanakeijplcaa
open Go.Sort

def insI (out : List Int) (x : Int) : List Int := (out.filter fun y => decide (y < x)) ++ ([x] ++ (out.filter fun y => decide (x < y)))
def setI (zs : List Int) : List Int := zs.foldl insI []
theorem insI_mem (out : List Int) (x y : Int) : y ∈ insI out x ↔ y ∈ out ∨ y = x := by
  simp only [insI, List.mem_append, List.mem_filter, List.mem_singleton, decide_eq_true_eq]
  constructor
  · rintro (⟨h, _⟩ | h | ⟨h, _⟩)
    · exact .inl h
    · exact .inr h
    · exact .inl h
  · rintro (h | h)
    · rcases Int.lt_trichotomy y x with h1 | h1 | h1
      · exact .inl ⟨h, h1⟩
      · exact .inr (.inl h1)
      · exact .inr (.inr ⟨h, h1⟩)
    · exact .inr (.inl h)
theorem insI_asc {out : List Int} (h : out.Pairwise (· < ·)) (x : Int) : (insI out x).Pairwise (· < ·) := by
  unfold insI
  rw [List.pairwise_append]
  refine ⟨h.filter _, ?_, ?_⟩
  · rw [List.singleton_append, List.pairwise_cons]
    exact ⟨fun y hy => by simpa using (List.mem_filter.1 hy).2, h.filter _⟩
  · intro a ha b hb
    have h1 : a < x := by simpa using (List.mem_filter.1 ha).2
    rcases List.mem_append.1 hb with hb | hb
    · simp at hb; omega
    · have h2 : x < b := by simpa using (List.mem_filter.1 hb).2
      omega
theorem foldI : ∀ (zs out : List Int), out.Pairwise (· < ·) → (zs.foldl insI out).Pairwise (· < ·) ∧ ∀ y, y ∈ zs.foldl insI out ↔ y ∈ out ∨ y ∈ zs
  | [], out, h => ⟨h, fun y => by simp⟩
  | z :: zs, out, h => by
    obtain ⟨h1, h2⟩ := foldI zs (insI out z) (insI_asc h z)
    refine ⟨h1, fun y => ?_⟩
    rw [List.foldl_cons, h2, insI_mem, List.mem_cons, or_assoc]
theorem setI_asc (zs : List Int) : (setI zs).Pairwise (· < ·) := (foldI zs [] List.Pairwise.nil).1
theorem setI_mem (zs : List Int) (y : Int) : y ∈ setI zs ↔ y ∈ zs := by
  rw [setI, (foldI zs [] List.Pairwise.nil).2]
  simp
theorem ascI_ext : ∀ {a b : List Int}, a.Pairwise (· < ·) → b.Pairwise (· < ·) → (∀ y, y ∈ a ↔ y ∈ b) → a = b
  | [], [], _, _, _ => rfl
  | [], y :: b, _, _, h => absurd ((h y).2 (by simp)) (by simp)
  | x :: a, [], _, _, h => absurd ((h x).1 (by simp)) (by simp)
  | x :: a, y :: b, ha, hb, h => by
    rw [List.pairwise_cons] at ha hb
    have hxy : x = y := by
      have h1 := (h x).1 (by simp)
      have h2 := (h y).2 (by simp)
      rcases List.mem_cons.1 h1 with e | h1
      · exact e
      · rcases List.mem_cons.1 h2 with e | h2
        · exact e.symm
        · have := ha.1 y h2
          have := hb.1 x h1
          omega
    subst hxy
    congr 1
    refine ascI_ext ha.2 hb.2 fun z => ⟨fun hz => ?_, fun hz => ?_⟩
    · rcases List.mem_cons.1 ((h z).1 (by simp [hz])) with e | h1
      · have := ha.1 z hz; omega
      · exact h1
    · rcases List.mem_cons.1 ((h z).2 (by simp [hz])) with e | h1
      · have := hb.1 z hz; omega
      · exact h1
theorem compactUp (d : Array Int) (hd : ∀ i j : Nat, i ≤ j → j < d.size → d[i]! ≤ d[j]!) : ∀ m, m ≤ d.size → (Lib.compactUpTo d m).Pairwise (· < ·) ∧ ∀ y, y ∈ Lib.compactUpTo d m ↔ ∃ j, j < m ∧ d[j]! = y
  | 0, _ => by simp [Lib.compactUpTo]
  | m + 1, hm => by
    obtain ⟨h1, h2⟩ := compactUp d hd m (by omega)
    rw [Lib.compactUpTo_succ]
    by_cases hk : Lib.keeps d m = true
    · rw [if_pos hk]
      constructor
      · rw [List.pairwise_append]
        refine ⟨h1, by simp, fun a ha b hb => ?_⟩
        simp at hb
        subst hb
        obtain ⟨j, hj, rfl⟩ := (h2 a).1 ha
        simp only [Lib.keeps, decide_eq_true_eq] at hk
        rcases hk with hk | hk
        · omega
        · have h3 := hd j (m - 1) (by omega) (by omega)
          have h4 := hd (m - 1) m (by omega) (by omega)
          omega
      · intro y
        rw [List.mem_append, h2]
        constructor
        · rintro (⟨j, hj, e⟩ | h)
          · exact ⟨j, by omega, e⟩
          · simp at h
            exact ⟨m, by omega, h.symm⟩
        · rintro ⟨j, hj, e⟩
          rcases Nat.lt_or_ge j m with h | h
          · exact .inl ⟨j, h, e⟩
          · obtain rfl : j = m := by omega
            exact .inr (by simp [e])
    · rw [if_neg hk, List.append_nil]
      refine ⟨h1, fun y => ?_⟩
      rw [h2]
      constructor
      · rintro ⟨j, hj, e⟩
        exact ⟨j, by omega, e⟩
      · rintro ⟨j, hj, e⟩
        rcases Nat.lt_or_ge j m with h | h
        · exact ⟨j, h, e⟩
        · obtain rfl : j = m := by omega
          simp only [Lib.keeps, decide_eq_true_eq, not_or, Decidable.not_not] at hk
          exact ⟨j - 1, by omega, by rw [← e, hk.2]⟩
theorem compact_sortI (zs : List Int) : Lib.compact (sortI zs) = setI zs := by
  have hs : (sortI zs).Pairwise (· ≤ ·) := by
    have h := List.pairwise_mergeSort (le := fun x y : Int => decide (x ≤ y)) (by intro a b c h1 h2; simp at *; omega) (by intro a b; simp; omega) zs
    exact h.imp (by simp)
  have hd : ∀ i j : Nat, i ≤ j → j < (sortI zs).toArray.size → (sortI zs).toArray[i]! ≤ (sortI zs).toArray[j]! := by
    intro i j hij hj
    have hj' : j < (sortI zs).length := by simpa using hj
    rcases Nat.lt_or_ge i j with h | h
    · have := (List.pairwise_iff_getElem.1 hs) i j (by omega) hj' h
      simpa [getElem!_pos, hj', show i < (sortI zs).length by omega] using this
    · obtain rfl : i = j := by omega
      exact Int.le_refl _
  obtain ⟨h1, h2⟩ := compactUp _ hd (sortI zs).length (by simp)
  refine ascI_ext h1 (setI_asc zs) fun y => ?_
  rw [setI_mem]
  refine (h2 y).trans ?_
  have h3 : y ∈ sortI zs ↔ y ∈ zs := by unfold sortI; exact List.mem_mergeSort
  rw [← h3, List.mem_iff_getElem]
  constructor
  · rintro ⟨j, hj, e⟩
    exact ⟨j, hj, by simpa [getElem!_pos, hj] using e⟩
  · rintro ⟨j, hj, e⟩
    exact ⟨j, hj, by simpa [getElem!_pos, hj] using e⟩
theorem insI_len (out : List Int) (x : Int) : (insI out x).length ≤ out.length + 1 := by
  have : ∀ l : List Int, (l.filter fun y => decide (y < x)).length + (l.filter fun y => decide (x < y)).length ≤ l.length := by
    intro l
    induction l with
    | nil => simp
    | cons a l ih =>
      simp only [List.filter_cons, List.length_cons]
      rcases Int.lt_trichotomy a x with h | h | h
      · rw [if_pos (by simpa using h), if_neg (by simp; omega)]
        simp
        omega
      · rw [if_neg (by simp; omega), if_neg (by simp; omega)]
        omega
      · rw [if_neg (by simp; omega), if_pos (by simpa using h)]
        simp
        omega
  have := this out
  simp [insI]
  omega
theorem foldI_len : ∀ (zs out : List Int), (zs.foldl insI out).length ≤ out.length + zs.length
  | [], out => by simp
  | z :: zs, out => by
    have h1 := foldI_len zs (insI out z)
    have h2 := insI_len out z
    simp
    omega
theorem setI_len (zs : List Int) : (setI zs).length ≤ zs.length := by
  have := foldI_len zs []
  simpa [setI] using this
end Go.Proofs.Ytnhanakeijplcaa
