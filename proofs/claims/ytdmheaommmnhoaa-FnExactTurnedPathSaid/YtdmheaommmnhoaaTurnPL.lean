/- Turned paths, plain, and a piece whose kids are reversed. No conditions. -/
import Derived.Test.YtdmheaommmnhoaaPathOk
import Derived.Test.YtdmheaommmnhoaaPMark
namespace Go.Proofs.Ytdmheaommmnhoaa
open Go.RowKit

def tuPc (p : Pc) : Pc := if p.op = 2 then ⟨p.op, p.l, p.k.reverse⟩ else p
open Classical in
noncomputable def tuP (ps : List Pc) : List Pc := if PaOk ps then ps.map tuPc else ps
theorem tuPc_len (p : Pc) : (tuPc p).k.length = p.k.length := by unfold tuPc; split <;> simp
theorem tuP_len (ps : List Pc) : (tuP ps).length = ps.length := by unfold tuP; split <;> simp
theorem tuP_kids {ps : List Pc} {n : Nat} (h : ∀ p ∈ ps, p.k.length ≤ n) : ∀ p ∈ tuP ps, p.k.length ≤ n := by
  intro p hp
  unfold tuP at hp
  split at hp
  · obtain ⟨q, hq, rfl⟩ := List.mem_map.1 hp
    rw [tuPc_len]
    exact h q hq
  · exact h p hp
theorem tuP_cnt (ps : List Pc) : cntP (tuP ps) = cntP ps := by
  unfold tuP
  split
  · unfold cntP
    rw [List.map_map]
    congr 1
    apply List.map_congr_left
    intro p _
    simp [Function.comp, tuPc_len]
  · rfl
theorem tuP_yes {ps : List Pc} (h : PaOk ps) : tuP ps = ps.map tuPc := if_pos h
theorem tuP_no {ps : List Pc} (h : ¬ PaOk ps) : tuP ps = ps := if_neg h
/-- One piece of the call's own with its kids reversed. -/
theorem rev_piece {w w' : World} {base c kc : Nat} {A K : Option Addr} {xs : List PcX} {p : Pc} (h : OwnPx w base A c xs) (j : Nat) (hj : j < xs.length) (hx : xs[j] = ⟨p, K, kc⟩)
    (ho : w'.ownsRow base 3 1 (.slice K p.k.length kc) p.k.length (p.k.reverse.map (Value.int .i64))) (hg : w.grownBy w' (Value.slice K p.k.length kc).ownBlock) :
    OwnPx w' base A c (xs.set j ⟨⟨p.op, p.l, p.k.reverse⟩, K, kc⟩) := by
  have hv : (⟨⟨p.op, p.l, p.k.reverse⟩, K, kc⟩ : PcX).v = xs[j].v := by rw [hx]; simp [PcX.v]
  have hf : (⟨⟨p.op, p.l, p.k.reverse⟩, K, kc⟩ : PcX).v.ownBlock = xs[j].v.ownBlock := by rw [hv]
  have hkj : (Value.slice K p.k.length kc).ownBlock = xs[j].v.ownBlock := by rw [hx]; rfl
  have hcells : pxCells (xs.set j ⟨⟨p.op, p.l, p.k.reverse⟩, K, kc⟩) = pxCells xs := by
    rw [← pxCells_set xs j ⟨⟨p.op, p.l, p.k.reverse⟩, K, kc⟩ hj hv]
    obtain ⟨c0, c1, _⟩ := pxCells_at xs j hj
    rw [hx] at c0 c1
    simp only at c0 c1
    have e0 : (pxCells xs).set (j * 3) (.int .i64 p.op) = pxCells xs := by
      obtain ⟨hl, he⟩ := List.getElem?_eq_some_iff.1 c0
      rw [← he, List.set_getElem_self]
    simp only
    rw [e0]
    obtain ⟨hl, he⟩ := List.getElem?_eq_some_iff.1 c1
    rw [← he, List.set_getElem_self]
  refine ⟨?_, ?_, ?_⟩
  · rw [List.length_set, hcells]
    refine h.row.kept hg ?_
    rw [hkj]
    exact own_ne h.row (h.kids _ (List.getElem_mem hj)) (by decide)
  · intro y hy
    obtain ⟨i, hi, rfl⟩ := List.getElem_of_mem hy
    have hi' : i < xs.length := by simpa using hi
    rw [List.getElem_set]
    split
    · simp only [PcX.v, List.length_reverse]
      exact ho
    · rename_i e
      refine (h.kids _ (List.getElem_mem hi')).kept hg ?_
      rw [hkj]
      rcases (by omega : i < j ∨ j < i) with hlt | hlt
      · exact List.pairwise_iff_getElem.1 h.apart i j hi' hj hlt
      · rcases List.pairwise_iff_getElem.1 h.apart j i hj hi' hlt with h1 | h1
        · rw [h1]
          cases xs[i].v.ownBlock <;> simp
        · exact .inr (fun e => h1 e.symm)
  · have h2 : (xs.map (fun x => x.v.ownBlock)).Pairwise (fun a b : Option Nat => a = none ∨ a ≠ b) := List.pairwise_map.2 h.apart
    have h3 : (xs.set j ⟨⟨p.op, p.l, p.k.reverse⟩, K, kc⟩).map (fun x => x.v.ownBlock) = xs.map (fun x => x.v.ownBlock) := by
      rw [List.map_set, hf]
      apply List.ext_getElem (by simp)
      intro i h4 h5
      rw [List.getElem_set]
      split
      · rename_i e; subst e; simp
      · rfl
    rw [← h3] at h2
    rw [List.pairwise_map] at h2
    exact h2
end Go.Proofs.Ytdmheaommmnhoaa
