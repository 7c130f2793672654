/- A right graph's text reads back to it. Plain numbers; no conditions. -/
import Derived.Test.YtnhanakeijplcaaRgLaw
import Derived.Test.YtnhanakeijplcaaEdOrd
namespace Go.Proofs.Ytnhanakeijplcaa
open Go.RowKit

theorem byteAt_str {L : List Int} {j : Nat} (h : j < L.length) (hb : 0 ≤ L[j] ∧ L[j] ≤ 255) : (byteAt (strOfNums L) j : Int) = L[j] := by
  unfold byteAt
  rw [strOfNums_data, List.getD_eq_getElem?_getD, List.getElem?_map, List.getElem?_eq_getElem h]
  simp only [Option.map_some, Option.getD_some, UInt8.toNat_ofNat']
  omega
theorem byteAt_mid {a m b : List Int} {j : Nat} (h : j < m.length) (hb : ∀ z ∈ m, 0 ≤ z ∧ z ≤ 255) : (byteAt (strOfNums (a ++ (m ++ b))) (a.length + j) : Int) = m[j] := by
  have hl : a.length + j < (a ++ (m ++ b)).length := by simp; omega
  have e : (a ++ (m ++ b))[a.length + j] = m[j] := by
    rw [List.getElem_append_right (by omega)]
    simp only [Nat.add_sub_cancel_left]
    rw [List.getElem_append_left h]
  rw [byteAt_str hl (by rw [e]; exact hb _ (List.getElem_mem h)), e]
theorem rvGo_vt (s : ByteArray) (a : Nat) : ∀ (f k m : Nat), (vt m).length ≤ f → (∀ j (hj : j < (vt m).length), (byteAt s (a + k + j) : Int) = (vt m)[j]) → a + k + (vt m).length ≤ s.size →
    vTo s a k + 128 ^ k * m ≤ 1000000000 → (m = 0 → k = 0) → rvGo s a f k = some (vTo s a k + 128 ^ k * m, a + k + (vt m).length)
  | 0, k, m, h, _, _, _, _ => absurd h (by have := vt_ne m; have : 0 < (vt m).length := List.length_pos_iff.2 this; omega)
  | f + 1, k, m, h, hb, hs, hn, hz => by
    by_cases hbig : 127 < m
    · have hv := vt_big hbig
      have h0 := hb 0 (by rw [hv]; simp)
      simp only [hv, List.getElem_cons_zero, Nat.add_zero] at h0
      have hlen : (vt m).length = (vt (m / 128)).length + 1 := by rw [hv]; simp
      rw [rvGo_on (by omega) (by omega)]
      have hvt : vTo s a (k + 1) + 128 ^ (k + 1) * (m / 128) = vTo s a k + 128 ^ k * m := by
        rw [vTo, show byteAt s (a + k) % 128 = m % 128 by omega, Nat.pow_succ, Nat.mul_comm (m % 128), Nat.mul_assoc, Nat.add_assoc, ← Nat.mul_add]
        congr 2
        omega
      rw [rvGo_vt s a f (k + 1) (m / 128) (by omega) (fun j hj => ?_) (by omega) (by rw [hvt]; exact hn) (fun h => by omega), hvt]
      · congr 2
        omega
      · have := hb (j + 1) (by omega)
        simp only [hv, List.getElem_cons_succ] at this
        rw [← this]
        congr 2
        omega
    · have hv := vt_small hbig
      have h0 := hb 0 (by rw [hv]; simp)
      simp only [hv, List.getElem_cons_zero, Nat.add_zero] at h0
      have hlen : (vt m).length = 1 := by rw [hv]; rfl
      have hvt : vTo s a (k + 1) = vTo s a k + 128 ^ k * m := by
        rw [vTo, show byteAt s (a + k) % 128 = m by omega, Nat.mul_comm m]
      rw [rvGo_yes (by omega) (by omega) (by rw [hvt]; exact hn) (fun h => by have := hz (by omega); omega), hvt, hlen]
theorem rvOut_vt {a b : List Int} {n : Nat} (hn : n ≤ 1000000000) : rvOut (strOfNums (a ++ (vt n ++ b))) a.length = some (n, a.length + (vt n).length) := by
  unfold rvOut
  have hs : (strOfNums (a ++ (vt n ++ b))).size = a.length + ((vt n).length + b.length) := by rw [strOfNums_size]; simp
  rw [if_pos ⟨by omega, by omega⟩]
  have := rvGo_vt (strOfNums (a ++ (vt n ++ b))) a.length 5 0 n (vt_len5 hn) (fun j hj => by
    have := byteAt_mid (a := a) (m := vt n) (b := b) hj (vt_byte n)
    simpa using this) (by omega) (by simpa [vTo] using hn) (fun _ => rfl)
  simpa [vTo] using this
theorem scByte_at {a b : List Int} {l : Nat} (hl : l ≤ 255) : scByte (strOfNums (a ++ ([(l : Int)] ++ b))) (some a.length) = some (l, a.length + 1) := by
  have hs : (strOfNums (a ++ ([(l : Int)] ++ b))).size = a.length + (1 + b.length) := by rw [strOfNums_size]; simp; omega
  have := byteAt_mid (a := a) (m := [(l : Int)]) (b := b) (j := 0) (by simp) (by intro z hz; simp at hz; omega)
  simp only [Nat.add_zero, List.getElem_cons_zero] at this
  simp only [scByte]
  rw [if_pos (by omega)]
  congr 2
  omega
/-- An edge whose numbers may be written. -/
def EdW (e : Ed) : Prop := (0 ≤ e.f ∧ e.f ≤ 1000000000) ∧ (0 ≤ e.t ∧ e.t ≤ 1000000000) ∧ 0 ≤ e.l ∧ e.l ≤ 255
theorem rdEd_at {a b : List Int} {e : Ed} (h : EdW e) : rdEd (strOfNums (a ++ (edT e ++ b))) (some a.length) = (e, some (a.length + (edT e).length)) := by
  obtain ⟨ef, el, et⟩ := e
  obtain ⟨⟨h1, h2⟩, ⟨h3, h4⟩, h5, h6⟩ := h
  simp only at h1 h2 h3 h4 h5 h6
  obtain ⟨f, rfl⟩ := nat_of h1
  obtain ⟨t, rfl⟩ := nat_of h3
  obtain ⟨l, rfl⟩ := nat_of h5
  have e0 : a ++ (edT ⟨f, l, t⟩ ++ b) = a ++ (vt f ++ ([(l : Int)] ++ (vt t ++ b))) := by simp [edT]
  have e1 : a ++ (edT ⟨f, l, t⟩ ++ b) = (a ++ vt f) ++ ([(l : Int)] ++ (vt t ++ b)) := by simp [edT]
  have e2 : a ++ (edT ⟨f, l, t⟩ ++ b) = (a ++ vt f ++ [(l : Int)]) ++ (vt t ++ b) := by simp [edT]
  have r1 : scNum (strOfNums (a ++ (edT ⟨f, l, t⟩ ++ b))) (some a.length) = some (f, a.length + (vt f).length) := by
    rw [e0]; exact rvOut_vt (by omega)
  have r2 : scByte (strOfNums (a ++ (edT ⟨f, l, t⟩ ++ b))) (some (a.length + (vt f).length)) = some (l, a.length + (vt f).length + 1) := by
    rw [e1]
    have := scByte_at (a := a ++ vt f) (b := vt t ++ b) (l := l) (by omega)
    simpa using this
  have r3 : scNum (strOfNums (a ++ (edT ⟨f, l, t⟩ ++ b))) (some (a.length + (vt f).length + 1)) = some (t, a.length + (vt f).length + 1 + (vt t).length) := by
    rw [e2]
    have := rvOut_vt (a := a ++ vt f ++ [(l : Int)]) (b := b) (n := t) (by omega)
    unfold scNum
    simpa [Nat.add_assoc] using this
  unfold rdEd
  rw [r1]
  simp only [Option.map_some]
  rw [r2]
  simp only [Option.map_some]
  rw [r3]
  simp [scVal, edT]
  omega
theorem rdEds_at : ∀ (es : List Ed) (a b : List Int), (∀ e ∈ es, EdW e) → rdEds (strOfNums (a ++ (edsT es ++ b))) es.length (some a.length) = (es, some (a.length + (edsT es).length))
  | [], a, b, _ => rfl
  | e :: r, a, b, h => by
    have e0 : a ++ (edsT (e :: r) ++ b) = a ++ (edT e ++ (edsT r ++ b)) := by simp [edsT]
    have e1 : a ++ (edsT (e :: r) ++ b) = (a ++ edT e) ++ (edsT r ++ b) := by simp [edsT]
    have h1 : rdEd (strOfNums (a ++ (edsT (e :: r) ++ b))) (some a.length) = (e, some (a.length + (edT e).length)) := by
      rw [e0]; exact rdEd_at (h e (by simp))
    have h2 : rdEds (strOfNums (a ++ (edsT (e :: r) ++ b))) r.length (some (a.length + (edT e).length)) = (r, some (a.length + (edT e).length + (edsT r).length)) := by
      rw [e1]
      have := rdEds_at r (a ++ edT e) b (fun x hx => h x (by simp [hx]))
      simpa using this
    simp only [List.length_cons, rdEds, h1, h2]
    simp [edsT]
    omega
theorem rg_round {s : Nat} {es : List Ed} (h : GOk s es) : rgOut (strOfNums (gText s es)) = some ((s : Int), es) := by
  have hs : s ≤ 12 := by have := h.1.2; omega
  have hl := h.2.1
  have hw : ∀ e ∈ es, EdW e := by
    intro e he
    obtain ⟨i, hi, rfl⟩ := List.getElem_of_mem he
    have := gOk_ed h hi
    exact ⟨⟨by omega, by omega⟩, ⟨by omega, by omega⟩, by omega, by omega⟩
  have e0 : gText s es = [] ++ (vt s ++ (vt es.length ++ edsT es)) := by simp [gText]
  have e1 : gText s es = vt s ++ (vt es.length ++ edsT es) := by simp [gText]
  have e2 : gText s es = (vt s ++ vt es.length) ++ (edsT es ++ []) := by simp [gText]
  have r1 : rgSize (strOfNums (gText s es)) = some (s, (vt s).length) := by
    unfold rgSize scNum
    rw [e0]
    have := rvOut_vt (a := []) (b := vt es.length ++ edsT es) (n := s) (by omega)
    simpa using this
  have r2 : rgCount (strOfNums (gText s es)) = some (es.length, (vt s).length + (vt es.length).length) := by
    unfold rgCount
    rw [r1]
    unfold scNum
    simp only [Option.map_some]
    rw [e1]
    exact rvOut_vt (by omega)
  have r3 : rgEds (strOfNums (gText s es)) 41 = (es, some ((vt s).length + (vt es.length).length + (edsT es).length)) := by
    unfold rgEds
    rw [r2]
    simp only [Option.map_some, scVal, Option.getD_some]
    rw [Nat.min_eq_left (by omega), e2]
    have := rdEds_at es (vt s ++ vt es.length) [] hw
    simpa using this
  have hz : (strOfNums (gText s es)).size = (vt s).length + (vt es.length).length + (edsT es).length := by
    rw [strOfNums_size]
    simp [gText]
    omega
  have hc : (rgEds (strOfNums (gText s es)) 41).2 = some (strOfNums (gText s es)).size ∧ (rgEds (strOfNums (gText s es)) 41).1.length = scVal (rgCount (strOfNums (gText s es))) ∧ GOk (scVal (rgSize (strOfNums (gText s es))) : Nat) (rgEds (strOfNums (gText s es)) 41).1 := by
    rw [r3, r2, r1, hz]
    exact ⟨rfl, rfl, h⟩
  unfold rgOut
  rw [if_pos hc, r3, r1]
  rfl
theorem rg_text {t : ByteArray} {s : Int} {es : List Ed} (h : rgOut t = some (s, es)) : GOk s es ∧ strOfNums (gText s es) = t := by
  rw [← rgOut2_eq] at h
  unfold rgOut2 at h
  split at h
  · rename_i h1
    injection h with h
    injection h with h2 h3
    subst h2 h3
    exact ⟨h1.2.1, h1.2.2⟩
  · cases h
end Go.Proofs.Ytnhanakeijplcaa
