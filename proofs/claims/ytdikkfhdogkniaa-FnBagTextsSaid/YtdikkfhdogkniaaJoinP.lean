/- Bags added and joined, plain: which rows can be put; what a join is. No conditions. -/
import Derived.Test.YtdikkfhdogkniaaBagP
namespace Go.Proofs.Ytdikkfhdogkniaa
open Go.RowKit

theorem lput_bad2 {ps : List It} {row : List Int} {t : Int} (h : BgOk ps) (hr : RowOk row) (ht : 1 ≤ t ∧ t ≤ 1000000) (hn : ¬ BgOk (lput ps row t)) : Bad (lput ps row t) := by
  by_cases hf : Fits ps row
  · by_cases hl : (lput ps row t).length ≤ 300
    · exact absurd (lput_ok h hr hf ht hl) hn
    · exact .inl (by omega)
  · exact lput_wide hf
theorem lput_fits {ps : List It} {row : List Int} {t : Int} (h : BgOk (lput ps row t)) : RowOk row ∧ Fits ps row :=
  ⟨Classical.byContradiction fun hn => lput_bad hn h, Classical.byContradiction fun hn => (lput_wide hn).no h⟩
def joinL (ps qs : List It) : List It := qs.foldl (fun acc x => lput acc x.r x.t) ps
theorem joinL_next {ps qs : List It} {k : Nat} (h : k < qs.length) : joinL ps (qs.take (k + 1)) = lput (joinL ps (qs.take k)) qs[k].r qs[k].t := by
  unfold joinL
  rw [List.take_succ_eq_append_getElem h, List.foldl_append]
  rfl
theorem joinL_bad (qs : List It) : ∀ ps : List It, Bad ps → Bad (joinL ps qs) := by
  induction qs with
  | nil => exact fun ps h => h
  | cons x qs ih => exact fun ps h => ih _ (h.put _ _)
theorem joinL_split (ps qs : List It) (k : Nat) : joinL ps qs = joinL (joinL ps (qs.take k)) (qs.drop k) := by
  unfold joinL
  rw [← List.foldl_append, List.take_append_drop]
theorem joinL_no {ps qs : List It} {k : Nat} (hq : BgOk qs) (hk : k < qs.length) (h : BgOk (joinL ps (qs.take k))) (hn : ¬ BgOk (lput (joinL ps (qs.take k)) qs[k].r qs[k].t)) : ¬ BgOk (joinL ps qs) := by
  have hi := hq.it (List.getElem_mem hk)
  have hb := lput_bad2 h hi.1 hi.2 hn
  rw [← joinL_next hk] at hb
  rw [joinL_split ps qs (k + 1)]
  exact (joinL_bad _ _ hb).no
theorem joinL_len (qs : List It) : ∀ ps : List It, (joinL ps qs).length ≤ ps.length + qs.length := by
  induction qs with
  | nil => exact fun ps => Nat.le_refl _
  | cons x qs ih =>
    intro ps
    have h1 := ih (lput ps x.r x.t)
    have h2 := (lput_len x.r x.t ps).2
    simp only [joinL, List.foldl_cons, List.length_cons] at h1 ⊢
    omega
end Go.Proofs.Ytdikkfhdogkniaa
