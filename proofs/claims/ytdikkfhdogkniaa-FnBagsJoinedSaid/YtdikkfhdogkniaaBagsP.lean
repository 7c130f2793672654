/- Bags, plain: how often rows stand in them, what a put changes. No conditions. -/
import Derived.Test.YtdikkfhdogkniaaTimes
import Derived.Test.YtdikkfhdogkniaaDrawB
import Derived.Test.YtdikkfhdogkniaaBagAdd
namespace Go.Proofs.Ytdikkfhdogkniaa
open Go.RowKit

theorem Asc.tail {x : It} {ps : List It} (h : Asc (x :: ps)) : Asc ps := (List.pairwise_cons.1 h).2
theorem timesL_none {row : List Int} : ∀ {ps : List It}, (∀ x ∈ ps, x.r ≠ row) → timesL ps row = 0
  | [], _ => rfl
  | x :: ps, h => by rw [timesL, if_neg (h x (by simp))]; exact timesL_none fun y hy => h y (by simp [hy])
theorem timesL_ahead {x : It} {ps : List It} {row : List Int} (h : Asc (x :: ps)) (hl : cmpI row x.r ≤ 0) : timesL ps row = 0 := by
  refine timesL_none fun y hy e => ?_
  have h1 := (List.pairwise_cons.1 h).1 y hy
  rw [e, cmpI_swap row x.r] at h1
  omega
theorem timesL_at : ∀ {ps : List It}, Asc ps → ∀ x ∈ ps, timesL ps x.r = x.t
  | y :: ps, h, x, hx => by
    rcases List.mem_cons.1 hx with rfl | hx
    · rw [timesL, if_pos rfl]
    · have h1 := (List.pairwise_cons.1 h).1 x hx
      rw [timesL, if_neg (fun e => by rw [e, cmpI_self] at h1; omega)]
      exact timesL_at h.tail x hx
theorem timesL_other {row r : List Int} {t : Int} (hr : r ≠ row) : ∀ ps : List It, timesL (lput ps row t) r = timesL ps r
  | [] => by simp [lput, timesL, Ne.symm hr]
  | x :: ps => by
    unfold lput
    split
    · rename_i e
      simp [timesL, e, Ne.symm hr]
    · split
      · simp [timesL, Ne.symm hr]
      · simp only [timesL]
        rw [timesL_other hr ps]
theorem timesL_self {row : List Int} {t : Int} : ∀ {ps : List It}, Asc ps → timesL ps row + t ≤ 1000000 → t ≤ 1000000 → timesL (lput ps row t) row = timesL ps row + t
  | [], _, _, _ => by simp [lput, timesL]
  | x :: ps, h, hc, ht => by
    unfold lput
    split
    · rename_i e
      have e2 : timesL (x :: ps) row = x.t := by rw [timesL, if_pos e]
      rw [e2] at hc ⊢
      rw [timesL, if_pos rfl]
      show min (x.t + t) 1000000 = x.t + t
      omega
    · rename_i hne
      split
      · rename_i hl
        rw [timesL, if_pos rfl, timesL, if_neg hne, timesL_ahead h (by omega)]
        show t = 0 + t
        omega
      · rw [timesL, if_neg hne] at hc ⊢
        rw [timesL, if_neg hne]
        exact timesL_self h.tail hc ht
theorem sumT_cons (x : It) (ps : List It) : sumT (x :: ps) = x.t + sumT ps := by simp [sumT]
theorem sumT_put {row : List Int} {t : Int} : ∀ {ps : List It}, (∀ x ∈ ps, x.t + t ≤ 1000000) → sumT (lput ps row t) = sumT ps + t
  | [], _ => by simp [lput, sumT]
  | x :: ps, h => by
    have hx := h x (by simp)
    unfold lput
    split
    · rw [sumT_cons, sumT_cons]
      show min (x.t + t) 1000000 + _ = _
      omega
    · split
      · rw [sumT_cons, sumT_cons]
        show t + _ = _
        rw [Int.add_comm]
      · rw [sumT_cons, sumT_cons, sumT_put fun y hy => h y (by simp [hy])]
        omega
theorem sumT_le {m : Int} : ∀ {ps : List It}, (∀ x ∈ ps, 0 ≤ x.t ∧ x.t ≤ m) → 0 ≤ sumT ps ∧ sumT ps ≤ m * ps.length
  | [], _ => by simp [sumT]
  | x :: ps, h => by
    have h1 := h x (by simp)
    have h2 := sumT_le (m := m) fun y hy => h y (List.mem_cons_of_mem _ hy)
    rw [sumT_cons, List.length_cons]
    have : m * ((ps.length + 1 : Nat) : Int) = m * (ps.length : Int) + m := by rw [show ((ps.length + 1 : Nat) : Int) = (ps.length : Int) + 1 by omega, Int.mul_add]; omega
    omega
theorem timesL_le {m : Int} (hm : 0 ≤ m) {row : List Int} : ∀ {ps : List It}, (∀ x ∈ ps, 0 ≤ x.t ∧ x.t ≤ m) → 0 ≤ timesL ps row ∧ timesL ps row ≤ m
  | [], _ => by simp [timesL]; exact hm
  | x :: ps, h => by
    unfold timesL
    split
    · exact h x (by simp)
    · exact timesL_le hm fun y hy => h y (by simp [hy])
theorem DOk.times {wide : Nat} {ps : List It} (h : DOk wide 7 ps) : ∀ x ∈ ps, 0 ≤ x.t ∧ x.t ≤ 21 := fun x hx => by
  have h1 := (h.1.it hx).2
  have h2 := (h.2.2 x hx).2.1
  omega
theorem bgSize_sum {ps : List It} (h : BgOk ps) (hs : sumT ps ≤ 1000000) : bgSize ps = sumT ps := by
  unfold bgSize
  rw [if_pos (PP_yes h)]
  omega
/-- What a row added to a drawn bag gives. -/
theorem addL_drawn {ps : List It} {row : List Int} {t : Int} (h : DOk 2 7 ps) (hr : row.length = 2) (hv : ∀ v ∈ row, 0 ≤ v ∧ v ≤ 4) (ht : 1 ≤ t ∧ t ≤ 9) :
    AddOk ps row t ∧ BgOk (lput ps row t) ∧ (lput ps row t).length ≤ 8 ∧ (∀ x ∈ ps, x.r ≠ row → timesL (lput ps row t) x.r = x.t) ∧ timesL (lput ps row t) row = timesL ps row + t ∧ bgSize (lput ps row t) = bgSize ps + t ∧
      (0 ≤ timesL ps row ∧ timesL ps row ≤ 21) ∧ (0 ≤ bgSize ps ∧ bgSize ps ≤ 147) := by
  have hl := (lput_len row t ps).2
  have h7 := h.2.1
  have hok : BgOk (lput ps row t) := lput_ok h.1 ⟨by omega, fun v hh => by have := hv v hh; omega⟩ (fun h0 => by rw [hr]; exact (h.2.2 _ (List.getElem_mem h0)).1) (by omega) (by omega)
  have htm := h.times
  have h1 := timesL_le (m := 21) (by omega) (row := row) htm
  have h2 := sumT_le htm
  have h3 := sumT_put (row := row) (t := t) (ps := ps) (fun x hx => by have := htm x hx; omega)
  have h4 := bgSize_sum h.1 (by omega)
  have h5 := bgSize_sum hok (by omega)
  exact ⟨⟨h.1, ⟨by omega, by omega⟩, hok⟩, hok, by omega, fun x hx hne => by rw [timesL_other hne]; exact timesL_at h.1.asc x hx, timesL_self h.1.asc (by omega) (by omega), by rw [h4, h5, h3], h1, by rw [h4]; omega⟩
end Go.Proofs.Ytdikkfhdogkniaa
