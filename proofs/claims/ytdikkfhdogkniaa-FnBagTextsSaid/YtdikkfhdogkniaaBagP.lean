/- Bags as lists of items, plain: valid bags, putting a row into a bag. No conditions. -/
import Derived.Test.YtdikkfhdogkniaaItm
import Derived.Test.YtdikkfhdogkniaaCmp
namespace Go.Proofs.Ytdikkfhdogkniaa
open Go.RowKit

theorem cmpI_swap : ∀ xs ys : List Int, cmpI ys xs = - cmpI xs ys
  | [], [] => rfl
  | [], _ :: _ => rfl
  | _ :: _, [] => rfl
  | a :: r, b :: t => by
    simp only [cmpI]
    rcases (by omega : a < b ∨ a = b ∨ b < a) with h | h | h
    · simp [h, show ¬ b < a by omega]
    · subst h
      simp [Int.lt_irrefl, cmpI_swap r t]
    · simp [h, show ¬ a < b by omega]
theorem cmpI_zero : ∀ xs ys : List Int, cmpI xs ys = 0 ↔ xs = ys
  | [], [] => by simp [cmpI]
  | [], _ :: _ => by simp [cmpI]
  | _ :: _, [] => by simp [cmpI]
  | a :: r, b :: t => by
    simp only [cmpI]
    rcases (by omega : a < b ∨ a = b ∨ b < a) with h | h | h
    · simp [h, show a ≠ b by omega]
    · subst h
      simp [Int.lt_irrefl, cmpI_zero r t]
    · simp [h, show ¬ a < b by omega, show a ≠ b by omega]
theorem cmpI_trans : ∀ xs ys zs : List Int, cmpI xs ys < 0 → cmpI ys zs < 0 → cmpI xs zs < 0
  | [], [], _, h, _ => by simp [cmpI] at h
  | [], _ :: _, [], _, h => by simp [cmpI] at h
  | [], _ :: _, _ :: _, _, _ => by simp [cmpI]
  | _ :: _, [], _, h, _ => by simp [cmpI] at h
  | _ :: _, _ :: _, [], _, h => by simp [cmpI] at h
  | a :: r, b :: s, c :: t, h1, h2 => by
    simp only [cmpI] at h1 h2 ⊢
    rcases (by omega : a < b ∨ a = b ∨ b < a) with h | h | h
    · rcases (by omega : b < c ∨ b = c ∨ c < b) with k | k | k
      · simp [show a < c by omega]
      · simp [show a < c by omega]
      · simp [k, show ¬ b < c by omega] at h2
    · subst h
      rcases (by omega : a < c ∨ a = c ∨ c < a) with k | k | k
      · simp [k]
      · subst k
        simp [Int.lt_irrefl] at h1 h2 ⊢
        exact cmpI_trans r s t h1 h2
      · simp [k, show ¬ a < c by omega] at h2
    · simp [h, show ¬ a < b by omega] at h1
theorem cmpI_self (xs : List Int) : cmpI xs xs = 0 := (cmpI_zero xs xs).2 rfl

def RowOk (r : List Int) : Prop := r.length ≤ 4 ∧ ∀ z ∈ r, 0 ≤ z ∧ z ≤ 99
def ItOk (x : It) : Prop := RowOk x.r ∧ 1 ≤ x.t ∧ x.t ≤ 1000000
/-- Item i is right in its place. -/
def ItAt (ps : List It) (i : Nat) (h : i < ps.length) : Prop := ItOk ps[i] ∧ ps[i].r.length = (ps[0]'(by omega)).r.length ∧ ∀ j (hj : j + 1 = i), cmpI (ps[j]'(by omega)).r ps[i].r < 0
/-- A valid bag. -/
def BgOk (ps : List It) : Prop := ps.length ≤ 300 ∧ ∀ i (h : i < ps.length), ItAt ps i h
def BgTo (ps : List It) (k : Nat) : Prop := ∀ i (h : i < ps.length), i < k → ItAt ps i h
theorem BgTo.next {ps : List It} {k : Nat} (h : BgTo ps k) (hk : k < ps.length) (hp : ItAt ps k hk) : BgTo ps (k + 1) := by
  intro i hi hlt
  by_cases e : i = k
  · subst e; exact hp
  · exact h i hi (by omega)

/-- The rows ascend. -/
def Asc (ps : List It) : Prop := ps.Pairwise fun a b => cmpI a.r b.r < 0
theorem asc_of : ∀ (ps : List It), (∀ i (h : i < ps.length) j (hj : j + 1 = i), cmpI (ps[j]'(by omega)).r ps[i].r < 0) → Asc ps
  | [], _ => List.Pairwise.nil
  | [x], _ => List.pairwise_singleton _ _
  | x :: y :: ps, h => by
    have ih := asc_of (y :: ps) (fun i hi j hj => by
      have := h (i + 1) (by simpa using hi) (j + 1) (by omega)
      simpa using this)
    have h0 : cmpI x.r y.r < 0 := by
      have := h 1 (by simp) 0 rfl
      simpa using this
    refine List.Pairwise.cons (fun z hz => ?_) ih
    rcases List.mem_cons.1 hz with rfl | hz
    · exact h0
    · exact cmpI_trans _ _ _ h0 ((List.pairwise_cons.1 ih).1 z hz)
theorem BgOk.asc {ps : List It} (h : BgOk ps) : Asc ps := asc_of ps fun i hi j hj => (h.2 i hi).2.2 j hj
theorem BgOk.wid {ps : List It} (h : BgOk ps) {x y : It} (hx : x ∈ ps) (hy : y ∈ ps) : x.r.length = y.r.length := by
  obtain ⟨i, hi, rfl⟩ := List.getElem_of_mem hx
  obtain ⟨j, hj, rfl⟩ := List.getElem_of_mem hy
  rw [(h.2 i hi).2.1, (h.2 j hj).2.1]
theorem BgOk.it {ps : List It} (h : BgOk ps) {x : It} (hx : x ∈ ps) : ItOk x := by
  obtain ⟨i, hi, rfl⟩ := List.getElem_of_mem hx
  exact (h.2 i hi).1
theorem BgOk.of {ps : List It} (hl : ps.length ≤ 300) (hi : ∀ x ∈ ps, ItOk x) (hw : ∀ x ∈ ps, ∀ y ∈ ps, x.r.length = y.r.length) (ha : Asc ps) : BgOk ps :=
  ⟨hl, fun i h => ⟨hi _ (List.getElem_mem h), hw _ (List.getElem_mem h) _ (List.getElem_mem _), fun j hj => List.pairwise_iff_getElem.1 ha j i (by omega) h (by omega)⟩⟩
theorem BgOk.nil : BgOk [] := BgOk.of (by simp) (by simp) (by simp) List.Pairwise.nil

def lput : List It → List Int → Int → List It
  | [], row, t => [⟨row, t⟩]
  | x :: ps, row, t => if x.r = row then ⟨row, min (x.t + t) 1000000⟩ :: ps else if cmpI row x.r < 0 then ⟨row, t⟩ :: x :: ps else x :: lput ps row t

theorem lput_less (ls rs : List It) (row : List Int) (t : Int) (h : ∀ x ∈ ls, cmpI x.r row < 0) : lput (ls ++ rs) row t = ls ++ lput rs row t := by
  induction ls with
  | nil => rfl
  | cons x ls ih =>
    have hx := h x (by simp)
    have h1 : x.r ≠ row := fun e => by rw [e, cmpI_self] at hx; omega
    have h2 : ¬ cmpI row x.r < 0 := by rw [cmpI_swap x.r row]; omega
    simp only [List.cons_append, lput]
    rw [if_neg h1, if_neg h2, ih (fun y hy => h y (by simp [hy]))]
/-- Putting a row at its place, which is i. -/
theorem lput_found (ps : List It) (row : List Int) (t : Int) (i : Nat) (hi : i < ps.length) (hl : ∀ j (hj : j < ps.length), j < i → cmpI ps[j].r row < 0) (he : ps[i].r = row) :
    lput ps row t = ps.set i ⟨row, min (ps[i].t + t) 1000000⟩ := by
  have h1 : ps = ps.take i ++ ps[i] :: ps.drop (i + 1) := by rw [← List.drop_eq_getElem_cons hi, List.take_append_drop]
  have h2 := lput_less (ps.take i) (ps[i] :: ps.drop (i + 1)) row t (fun x hx => by
    obtain ⟨j, hj, rfl⟩ := List.getElem_of_mem hx
    rw [List.length_take] at hj
    rw [List.getElem_take]
    exact hl j (by omega) (by omega))
  rw [← h1] at h2
  rw [h2]
  simp only [lput]
  rw [if_pos he, List.set_eq_take_append_cons_drop, if_pos hi]
theorem lput_new (ps : List It) (row : List Int) (t : Int) (i : Nat) (hi : i ≤ ps.length) (hl : ∀ j (hj : j < ps.length), j < i → cmpI ps[j].r row < 0) (hr : ∀ (h : i < ps.length), 0 < cmpI ps[i].r row) :
    lput ps row t = ps.take i ++ ⟨row, t⟩ :: ps.drop i := by
  have h2 := lput_less (ps.take i) (ps.drop i) row t (fun x hx => by
    obtain ⟨j, hj, rfl⟩ := List.getElem_of_mem hx
    rw [List.length_take] at hj
    rw [List.getElem_take]
    exact hl j (by omega) (by omega))
  rw [List.take_append_drop] at h2
  rw [h2]
  by_cases h : i < ps.length
  · have hr := hr h
    rw [List.drop_eq_getElem_cons h]
    simp only [lput]
    rw [if_neg (fun e => by rw [e, cmpI_self] at hr; omega), if_pos (by rw [cmpI_swap ps[i].r row]; omega)]
  · rw [List.drop_eq_nil_of_le (by omega)]
    rfl
theorem lput_len (row : List Int) (t : Int) : ∀ ps : List It, ps.length ≤ (lput ps row t).length ∧ (lput ps row t).length ≤ ps.length + 1
  | [] => by simp [lput]
  | x :: ps => by
    have := lput_len row t ps
    simp only [lput]
    split
    · simp
    · split
      · simp
      · simp; omega
theorem lput_keeps (row : List Int) (t : Int) : ∀ (ps : List It) (x : It), x ∈ ps → ∃ y ∈ lput ps row t, y.r = x.r
  | [], x, h => by cases h
  | z :: ps, x, h => by
    simp only [lput]
    split
    · rename_i e
      rcases List.mem_cons.1 h with rfl | h
      · exact ⟨_, List.mem_cons_self .., e.symm⟩
      · exact ⟨x, by simp [h], rfl⟩
    · split
      · exact ⟨x, by simp [h], rfl⟩
      · rcases List.mem_cons.1 h with rfl | h
        · exact ⟨x, by simp, rfl⟩
        · obtain ⟨y, hy, e⟩ := lput_keeps row t ps x h
          exact ⟨y, by simp [hy], e⟩
theorem lput_has (row : List Int) (t : Int) : ∀ (ps : List It), ∃ y ∈ lput ps row t, y.r = row
  | [] => ⟨_, List.mem_singleton.2 rfl, rfl⟩
  | z :: ps => by
    simp only [lput]
    split
    · exact ⟨_, List.mem_cons_self .., rfl⟩
    · split
      · exact ⟨_, List.mem_cons_self .., rfl⟩
      · obtain ⟨y, hy, e⟩ := lput_has row t ps
        exact ⟨y, by simp [hy], e⟩
theorem lput_mem (row : List Int) (t : Int) : ∀ (ps : List It) (y : It), y ∈ lput ps row t → y ∈ ps ∨ (y = ⟨row, t⟩) ∨ ∃ x ∈ ps, x.r = row ∧ y = ⟨row, min (x.t + t) 1000000⟩
  | [], y, h => by simp only [lput, List.mem_singleton] at h; exact .inr (.inl h)
  | z :: ps, y, h => by
    simp only [lput] at h
    split at h
    · rename_i e
      rcases List.mem_cons.1 h with h | h
      · exact .inr (.inr ⟨z, by simp, e, h⟩)
      · exact .inl (by simp [h])
    · split at h
      · rcases List.mem_cons.1 h with h | h
        · exact .inr (.inl h)
        · exact .inl h
      · rcases List.mem_cons.1 h with h | h
        · exact .inl (by simp [h])
        · rcases lput_mem row t ps y h with h | h | ⟨x, hx, e⟩
          · exact .inl (by simp [h])
          · exact .inr (.inl h)
          · exact .inr (.inr ⟨x, by simp [hx], e⟩)
theorem lput_asc (row : List Int) (t : Int) : ∀ (ps : List It), Asc ps → Asc (lput ps row t)
  | [], _ => List.pairwise_singleton _ _
  | z :: ps, h => by
    have h1 := List.pairwise_cons.1 h
    simp only [lput]
    split
    · rename_i e
      exact List.Pairwise.cons (fun y hy => by have := h1.1 y hy; rwa [e] at this) h1.2
    · rename_i hne
      split
      · rename_i hlt
        refine List.Pairwise.cons (fun y hy => ?_) h
        rcases List.mem_cons.1 hy with rfl | hy
        · exact hlt
        · exact cmpI_trans _ _ _ hlt (h1.1 y hy)
      · rename_i hge
        have hz : cmpI z.r row < 0 := by
          have e1 := cmpI_swap z.r row
          have e2 : cmpI z.r row ≠ 0 := fun e => hne ((cmpI_zero _ _).1 e)
          omega
        refine List.Pairwise.cons (fun y hy => ?_) (lput_asc row t ps h1.2)
        rcases lput_mem row t ps y hy with hy | rfl | ⟨x, _, _, rfl⟩
        · exact h1.1 y hy
        · exact hz
        · exact hz
/-- A bag that no more puts can make valid. -/
def Bad (ps : List It) : Prop := 300 < ps.length ∨ ∃ x ∈ ps, ∃ y ∈ ps, x.r.length ≠ y.r.length
theorem Bad.no {ps : List It} (h : Bad ps) : ¬ BgOk ps := fun k => by
  rcases h with h | ⟨x, hx, y, hy, e⟩
  · have := k.1; omega
  · exact e (k.wid hx hy)
theorem Bad.put {ps : List It} (h : Bad ps) (row : List Int) (t : Int) : Bad (lput ps row t) := by
  rcases h with h | ⟨x, hx, y, hy, e⟩
  · exact .inl (by have := (lput_len row t ps).1; omega)
  · obtain ⟨x', hx', ex⟩ := lput_keeps row t ps x hx
    obtain ⟨y', hy', ey⟩ := lput_keeps row t ps y hy
    exact .inr ⟨x', hx', y', hy', by rw [ex, ey]; exact e⟩
/-- The row has the width of the bag's rows. -/
def Fits (ps : List It) (row : List Int) : Prop := ∀ h : 0 < ps.length, ps[0].r.length = row.length
theorem lput_ok {ps : List It} {row : List Int} {t : Int} (h : BgOk ps) (hr : RowOk row) (hf : Fits ps row) (ht : 1 ≤ t ∧ t ≤ 1000000) (hl : (lput ps row t).length ≤ 300) : BgOk (lput ps row t) := by
  have hw : ∀ x ∈ ps, x.r.length = row.length := fun x hx => by
    obtain ⟨i, hi, rfl⟩ := List.getElem_of_mem hx
    rw [(h.2 i hi).2.1]
    exact hf (by omega)
  have hw2 : ∀ y ∈ lput ps row t, y.r.length = row.length := fun y hy => by
    rcases lput_mem row t ps y hy with hy | rfl | ⟨x, _, _, rfl⟩
    · exact hw y hy
    · rfl
    · rfl
  refine BgOk.of hl (fun y hy => ?_) (fun x hx y hy => by rw [hw2 x hx, hw2 y hy]) (lput_asc row t ps h.asc)
  rcases lput_mem row t ps y hy with hy | rfl | ⟨x, hx, _, rfl⟩
  · exact h.it hy
  · exact ⟨hr, ht⟩
  · have := (h.it hx).2
    exact ⟨hr, by simp only; omega, by simp only; omega⟩
theorem lput_wide {ps : List It} {row : List Int} {t : Int} (hf : ¬ Fits ps row) : Bad (lput ps row t) := by
  unfold Fits at hf
  obtain ⟨h, e⟩ := Classical.not_forall.1 hf
  obtain ⟨x, hx, ex⟩ := lput_keeps row t ps ps[0] (List.getElem_mem h)
  obtain ⟨y, hy, ey⟩ := lput_has row t ps
  exact .inr ⟨x, hx, y, hy, by rw [ex, ey]; exact e⟩
theorem lput_bad {ps : List It} {row : List Int} {t : Int} (hr : ¬ RowOk row) : ¬ BgOk (lput ps row t) := fun k => by
  obtain ⟨y, hy, ey⟩ := lput_has row t ps
  have := (k.it hy).1
  rw [ey] at this
  exact hr this
end Go.Proofs.Ytdikkfhdogkniaa
