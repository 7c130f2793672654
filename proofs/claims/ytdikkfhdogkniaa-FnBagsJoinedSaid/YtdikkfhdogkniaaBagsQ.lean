/- Bags joined, plain: the order does not matter. No conditions. -/
import Derived.Test.YtdikkfhdogkniaaBagsP
import Derived.Test.YtdikkfhdogkniaaBagJoin
namespace Go.Proofs.Ytdikkfhdogkniaa
open Go.RowKit

/-- A bag of rows of two, small. -/
def Sm (m n : Nat) (ps : List It) : Prop := BgOk ps ∧ ps.length ≤ n ∧ ∀ p ∈ ps, p.r.length = 2 ∧ p.t ≤ m
theorem Sm.put {m n : Nat} {ps : List It} {row : List Int} {t : Nat} (h : Sm m n ps) (hr : RowOk row) (h2 : row.length = 2) (ht : 1 ≤ t) (hm : m + t ≤ 1000000) (hn : n + 1 ≤ 300) : Sm (m + t) (n + 1) (lput ps row t) := by
  have hl := (lput_len row t ps).2
  have h1 := h.2.1
  refine ⟨lput_ok h.1 hr (fun h0 => by rw [h2]; exact (h.2.2 _ (List.getElem_mem h0)).1) (by omega) (by omega), by omega, fun p hp => ?_⟩
  rcases lput_mem row t ps p hp with h3 | h3 | ⟨x, h3, h4, h5⟩
  · have := h.2.2 p h3; exact ⟨this.1, by omega⟩
  · rw [h3]; exact ⟨h2, by show (t : Int) ≤ _; omega⟩
  · have := h.2.2 x h3
    rw [h5]
    exact ⟨h2, by show min (x.t + t) 1000000 ≤ _; omega⟩
theorem Sm.tail {k l : Nat} {x : It} {qs : List It} (h : Sm k (l + 1) (x :: qs)) : Sm k l qs := by
  have h1 := h.2.1
  simp only [List.length_cons] at h1
  exact ⟨BgOk.of (by have := h.1.1; simp only [List.length_cons] at this; omega) (fun y hy => h.1.it (by simp [hy])) (fun y hy z hz => h.1.wid (by simp [hy]) (by simp [hz])) h.1.asc.tail, by omega, fun p hp => h.2.2 p (by simp [hp])⟩
theorem Sm.times {m n : Nat} {ps : List It} (h : Sm m n ps) : ∀ x ∈ ps, 0 ≤ x.t ∧ x.t ≤ m := fun x hx => by
  have h1 := (h.1.it hx).2
  have h2 := (h.2.2 x hx).2
  omega
theorem join_small : ∀ (l : Nat) {m n k : Nat} {qs ps : List It}, Sm m n ps → Sm k l qs → m + k * l ≤ 1000000 → n + l ≤ 300 →
    Sm (m + k * l) (n + l) (joinL ps qs) ∧ (∀ r, timesL (joinL ps qs) r = timesL ps r + timesL qs r) ∧ sumT (joinL ps qs) = sumT ps + sumT qs := by
  intro l
  induction l with
  | zero =>
    intro m n k qs ps h hq _ _
    have h0 : qs = [] := List.eq_nil_of_length_eq_zero (by have := hq.2.1; omega)
    subst h0
    exact ⟨⟨h.1, by have := h.2.1; simpa [joinL] using this, fun p hp => by have := h.2.2 p hp; exact ⟨this.1, by omega⟩⟩, fun r => by simp [joinL, timesL], by simp [joinL, sumT]⟩
  | succ l ih =>
    intro m n k qs ps h hq hm hn
    have hmul : k * (l + 1) = k * l + k := Nat.mul_succ k l
    cases qs with
    | nil => exact ⟨⟨h.1, by have := h.2.1; simp only [joinL, List.foldl_nil]; omega, fun p hp => by have := h.2.2 p hp; exact ⟨this.1, by omega⟩⟩, fun r => by simp [joinL, timesL], by simp [joinL, sumT]⟩
    | cons x qs =>
      have hx := hq.1.it (List.mem_cons_self ..)
      have hxk := hq.2.2 x (List.mem_cons_self ..)
      obtain ⟨t, ht⟩ : ∃ t : Nat, x.t = t := ⟨x.t.toNat, by have := hx.2; omega⟩
      have hx2 := hx.2
      have hxk2 := hxk.2
      rw [ht] at hx2 hxk2
      have h1 := h.put (t := t) hx.1 hxk.1 (by omega) (by omega) (by omega)
      rw [← ht] at h1
      have h1' : Sm (m + k) (n + 1) (lput ps x.r x.t) := ⟨h1.1, h1.2.1, fun p hp => by have := h1.2.2 p hp; exact ⟨this.1, by omega⟩⟩
      obtain ⟨e1, e2, e3⟩ := ih h1' hq.tail (by omega) (by omega)
      have hj : joinL ps (x :: qs) = joinL (lput ps x.r x.t) qs := rfl
      rw [hj]
      refine ⟨⟨e1.1, by have := e1.2.1; omega, fun p hp => by have := e1.2.2 p hp; exact ⟨this.1, by omega⟩⟩, fun r => ?_, ?_⟩
      · rw [e2 r]
        have h3 := timesL_le (m := (m : Int)) (by omega) (row := x.r) h.times
        by_cases hr : x.r = r
        · subst hr
          rw [timesL_self h.1.asc (by omega) (by omega), timesL, if_pos rfl, timesL_ahead hq.1.asc (by rw [cmpI_self]; omega)]
          omega
        · rw [timesL_other (Ne.symm hr), timesL, if_neg hr]
      · rw [e3, sumT_put (fun y hy => by have := h.times y hy; omega), sumT_cons]
        omega
theorem bag_ext : ∀ {ps qs : List It}, Asc ps → Asc qs → (∀ x ∈ ps, 1 ≤ x.t) → (∀ x ∈ qs, 1 ≤ x.t) → (∀ r, timesL ps r = timesL qs r) → ps = qs
  | [], [], _, _, _, _, _ => rfl
  | [], y :: qs, _, _, _, h2, he => by
    have := he y.r
    rw [timesL, timesL, if_pos rfl] at this
    have := h2 y (by simp)
    omega
  | x :: ps, [], _, _, h1, _, he => by
    have := he x.r
    rw [timesL, timesL, if_pos rfl] at this
    have := h1 x (by simp)
    omega
  | x :: ps, y :: qs, ha, hb, h1, h2, he => by
    have hx := h1 x (by simp)
    have hy := h2 y (by simp)
    have hr : x.r = y.r := by
      rcases Int.lt_trichotomy (cmpI x.r y.r) 0 with hl | hl | hl
      · exfalso
        have e := he x.r
        rw [timesL, if_pos rfl, timesL, if_neg (fun e => by rw [e, cmpI_self] at hl; omega), timesL_ahead hb (by omega)] at e
        omega
      · exact (cmpI_zero _ _).1 hl
      · exfalso
        have hl2 : cmpI y.r x.r < 0 := by rw [cmpI_swap x.r y.r]; omega
        have e := he y.r
        rw [timesL, if_neg (fun e => by rw [e, cmpI_self] at hl2; omega), timesL_ahead ha (by omega), timesL, if_pos rfl] at e
        omega
    have ht : x.t = y.t := by
      have e := he x.r
      rw [timesL, if_pos rfl, timesL, if_pos hr.symm] at e
      exact e
    have hxy : x = y := by cases x; cases y; simp_all
    subst hxy
    rw [bag_ext ha.tail hb.tail (fun z hz => h1 z (by simp [hz])) (fun z hz => h2 z (by simp [hz])) fun r => ?_]
    by_cases hxr : x.r = r
    · subst hxr
      rw [timesL_ahead ha (by rw [cmpI_self]; omega), timesL_ahead hb (by rw [cmpI_self]; omega)]
    · have e := he r
      rw [timesL, if_neg hxr, timesL, if_neg hxr] at e
      exact e
theorem Sm.ext {m n k l : Nat} {ps qs : List It} (h : Sm m n ps) (hq : Sm k l qs) (he : ∀ r, timesL ps r = timesL qs r) : ps = qs :=
  bag_ext h.1.asc hq.1.asc (fun _ hx => (h.1.it hx).2.1) (fun _ hx => (hq.1.it hx).2.1) he
theorem Sm.mono {m n m' n' : Nat} {ps : List It} (h : Sm m n ps) (hm : m ≤ m') (hn : n ≤ n') : Sm m' n' ps := ⟨h.1, by have := h.2.1; omega, fun p hp => by have := h.2.2 p hp; exact ⟨this.1, by omega⟩⟩
theorem DOk.sm {ps : List It} (h : DOk 2 7 ps) : Sm 21 7 ps := ⟨h.1, h.2.1, fun p hp => by have := h.2.2 p hp; exact ⟨this.1, by omega⟩⟩
theorem Sm.size {m n : Nat} {ps : List It} (h : Sm m n ps) (hm : m ≤ 3000) (hn : n ≤ 300) : bgSize ps = sumT ps := by
  have h1 := sumT_le h.times
  refine bgSize_sum h.1 ?_
  have h2 : (m : Int) * ps.length ≤ 3000 * 300 := Int.mul_le_mul (by omega) (by have := h.2.1; omega) (by omega) (by omega)
  omega
theorem Sm.small {m n : Nat} {ps : List It} (h : Sm m n ps) : (∀ p ∈ ps, p.r.length ≤ 4294967296) := fun p hp => by have := (h.2.2 p hp).1; omega
/-- A bag in which each row stands once. -/
def eachL (ps : List It) : List It := ps.map fun p => ⟨p.r, 1⟩
theorem eachL_twice (ps : List It) : eachL (eachL ps) = eachL ps := by simp [eachL]
theorem eachL_len (ps : List It) : (eachL ps).length = ps.length := by simp [eachL]
theorem eachL_row (ps : List It) : ∀ p ∈ eachL ps, p.r.length ≤ 4294967296 ∨ ∃ q ∈ ps, p.r = q.r := fun p hp => by
  simp only [eachL, List.mem_map] at hp
  obtain ⟨q, hq, rfl⟩ := hp
  exact .inr ⟨q, hq, rfl⟩
end Go.Proofs.Ytdikkfhdogkniaa
