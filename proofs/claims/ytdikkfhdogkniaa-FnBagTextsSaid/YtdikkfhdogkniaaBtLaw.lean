/- A valid bag's text reads back to it. Plain; no conditions. -/
import Derived.Test.YtdikkfhdogkniaaVtRead
import Derived.Test.YtdikkfhdogkniaaBagT
namespace Go.Proofs.Ytdikkfhdogkniaa
open Go.RowKit

theorem scNum_vt {a b : List Int} {n : Nat} (hn : n ≤ 1000000000) : scNum (strOfNums (a ++ (vt n ++ b))) (some a.length) = some (n, a.length + (vt n).length) := rvOut_vt hn
theorem rdNums_at : ∀ (r : List Int) (a b : List Int), (∀ z ∈ r, 0 ≤ z ∧ z ≤ 1000000000) → rdNums (strOfNums (a ++ (rowT r ++ b))) r.length (some a.length) = (r, some (a.length + (rowT r).length))
  | [], a, b, _ => rfl
  | z :: r, a, b, h => by
    have hz := h z (by simp)
    obtain ⟨n, rfl⟩ := nat_of hz.1
    have e0 : a ++ (rowT ((n : Int) :: r) ++ b) = a ++ (vt n ++ (rowT r ++ b)) := by simp [rowT]
    have e1 : a ++ (rowT ((n : Int) :: r) ++ b) = (a ++ vt n) ++ (rowT r ++ b) := by simp [rowT]
    have h1 : scNum (strOfNums (a ++ (rowT ((n : Int) :: r) ++ b))) (some a.length) = some (n, a.length + (vt n).length) := by
      rw [e0]; exact scNum_vt (by omega)
    have h2 : rdNums (strOfNums (a ++ (rowT ((n : Int) :: r) ++ b))) r.length (some (a.length + (vt n).length)) = (r, some (a.length + (vt n).length + (rowT r).length)) := by
      rw [e1]
      have := rdNums_at r (a ++ vt n) b (fun x hx => h x (by simp [hx]))
      simpa using this
    simp only [List.length_cons, rdNums, h1, Option.map_some, h2]
    simp [scVal, rowT]
    omega
theorem rdIt_at {a b : List Int} {x : It} (h : ItOk x) : rdIt (strOfNums (a ++ (itT x ++ b))) a.length = (x, some (a.length + (itT x).length)) := by
  obtain ⟨r, t⟩ := x
  obtain ⟨⟨h1, h2⟩, h3, h4⟩ := h
  simp only at h1 h2 h3 h4
  obtain ⟨n, rfl⟩ := nat_of (show 0 ≤ t by omega)
  have e0 : a ++ (itT ⟨r, n⟩ ++ b) = a ++ (vt r.length ++ (rowT r ++ (vt n ++ b))) := by simp [itT]
  have e1 : a ++ (itT ⟨r, n⟩ ++ b) = (a ++ vt r.length) ++ (rowT r ++ (vt n ++ b)) := by simp [itT]
  have e2 : a ++ (itT ⟨r, n⟩ ++ b) = (a ++ vt r.length ++ rowT r) ++ (vt n ++ b) := by simp [itT]
  have r1 : scNum (strOfNums (a ++ (itT ⟨r, n⟩ ++ b))) (some a.length) = some (r.length, a.length + (vt r.length).length) := by
    rw [e0]; exact scNum_vt (by omega)
  have r2 : rdRow (strOfNums (a ++ (itT ⟨r, n⟩ ++ b))) a.length = (r, some (a.length + (vt r.length).length + (rowT r).length)) := by
    unfold rdRow
    rw [r1]
    simp only [Option.map_some, scVal, Option.getD_some]
    rw [Nat.min_eq_left (by omega), e1]
    have := rdNums_at r (a ++ vt r.length) (vt n ++ b) (fun z hz => by have := h2 z hz; omega)
    simpa using this
  have r3 : scNum (strOfNums (a ++ (itT ⟨r, n⟩ ++ b))) (some (a.length + (vt r.length).length + (rowT r).length)) = some (n, a.length + (vt r.length).length + (rowT r).length + (vt n).length) := by
    rw [e2]
    have := scNum_vt (a := a ++ vt r.length ++ rowT r) (b := b) (n := n) (by omega)
    simpa [Nat.add_assoc] using this
  unfold rdIt
  rw [r2]
  simp only
  rw [r3]
  simp [scVal, itT]
  omega
theorem rdIts_at : ∀ (ps : List It) (a b : List Int), (∀ x ∈ ps, ItOk x) → rdIts (strOfNums (a ++ (itsT ps ++ b))) ps.length (some a.length) = (ps, some (a.length + (itsT ps).length))
  | [], a, b, _ => rfl
  | x :: r, a, b, h => by
    have e0 : a ++ (itsT (x :: r) ++ b) = a ++ (itT x ++ (itsT r ++ b)) := by simp [itsT]
    have e1 : a ++ (itsT (x :: r) ++ b) = (a ++ itT x) ++ (itsT r ++ b) := by simp [itsT]
    have h1 : rdIt (strOfNums (a ++ (itsT (x :: r) ++ b))) a.length = (x, some (a.length + (itT x).length)) := by
      rw [e0]; exact rdIt_at (h x (by simp))
    have h2 : rdIts (strOfNums (a ++ (itsT (x :: r) ++ b))) r.length (some (a.length + (itT x).length)) = (r, some (a.length + (itT x).length + (itsT r).length)) := by
      rw [e1]
      have := rdIts_at r (a ++ itT x) b (fun y hy => h y (by simp [hy]))
      simpa using this
    simp only [List.length_cons, rdIts, h1, h2]
    simp [itsT]
    omega
theorem rb_round {ps : List It} (h : BgOk ps) : rbOut (strOfNums (bText ps)) = some ps := by
  have hl := h.1
  have e0 : bText ps = [] ++ (vt ps.length ++ itsT ps) := by simp [bText]
  have e1 : bText ps = vt ps.length ++ (itsT ps ++ []) := by simp [bText]
  have r1 : rbCount (strOfNums (bText ps)) = some (ps.length, (vt ps.length).length) := by
    unfold rbCount
    rw [e0]
    have := scNum_vt (a := []) (b := itsT ps) (n := ps.length) (by omega)
    simpa using this
  have r2 : rbIts (strOfNums (bText ps)) = (ps, some ((vt ps.length).length + (itsT ps).length)) := by
    unfold rbIts
    rw [r1]
    simp only [Option.map_some, scVal, Option.getD_some]
    rw [Nat.min_eq_left (by omega), e1]
    exact rdIts_at ps (vt ps.length) [] (fun x hx => h.it hx)
  have hz : (strOfNums (bText ps)).size = (vt ps.length).length + (itsT ps).length := by
    rw [strOfNums_size]
    simp [bText]
  unfold rbOut
  rw [r2, if_pos ⟨by rw [hz], h⟩]
theorem rb_back {t : ByteArray} {ps : List It} (h : rbOut t = some ps) : BgOk ps ∧ strOfNums (bText ps) = t := by
  rw [← rbOut2_eq] at h
  unfold rbOut2 at h
  split at h
  · rename_i h1
    injection h with h
    subst h
    exact ⟨h1.2.1, h1.2.2⟩
  · cases h
end Go.Proofs.Ytdikkfhdogkniaa
