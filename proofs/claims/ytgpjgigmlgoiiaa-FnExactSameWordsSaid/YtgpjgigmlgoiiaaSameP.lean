/- SameWords, plain: the program's search over sets of states and the reference's over words agree. No conditions. -/
import Derived.Test.YtgpjgigmlgoiiaaSTakes
namespace Go.Proofs.Ytgpjgigmlgoiiaa
open Go.RowKit

/-- The program's search. -/
def sameF (es es' : List Ed) (bs bs' : List Bool) : Nat → Nat → Nat → Bool
  | 0, x, y => accB bs x == accB bs' y
  | k + 1, x, y => (accB bs x == accB bs' y) && (decide (x ||| y = 0) || [97, 98, 99, 100].all fun l : Int => sameF es es' bs bs' k (moveN es x l) (moveN es' y l))
def runB (es : List Ed) (u : ByteArray) : Nat := runN es u.data.toList
theorem runB_app (es : List Ed) (u : ByteArray) (l : Int) (h0 : 0 ≤ l) (h1 : l ≤ 255) : runB es (u ++ strOfNums [l]) = moveN es (runB es u) l := by
  have e : (u ++ strOfNums [l]).data.toList = u.data.toList ++ [UInt8.ofNat l.toNat] := by simp [strOfNums, ByteArray.data_append]
  unfold runB
  rw [e]
  unfold runN
  rw [List.foldl_append]
  show moveN es _ (((UInt8.ofNat l.toNat).toNat : Nat) : Int) = _
  rw [show ((UInt8.ofNat l.toNat).toNat : Int) = l by simp [UInt8.toNat_ofNat']; omega]
theorem app_size (u : ByteArray) (l : Int) : (u ++ strOfNums [l]).size = u.size + 1 := by
  rw [ByteArray.size_append, strOfNums_size]
  rfl
/-- The words that follow a word. -/
def nextW (G : ByteArray → Bool) (u : ByteArray) : List ByteArray := ([97, 98, 99, 100].map fun l : Int => u ++ strOfNums [l]).filter G
def wordsFrom (G : ByteArray → Bool) (u : ByteArray) : Nat → List ByteArray
  | 0 => [u]
  | n + 1 => (wordsFrom G u n).flatMap (nextW G)
theorem nextW_mem {G : ByteArray → Bool} {u v : ByteArray} : v ∈ nextW G u ↔ (∃ l : Int, 97 ≤ l ∧ l ≤ 100 ∧ v = u ++ strOfNums [l]) ∧ G v = true := by
  unfold nextW
  rw [List.mem_filter, List.mem_map]
  constructor
  · rintro ⟨⟨l, hl, rfl⟩, h⟩
    refine ⟨⟨l, ?_, ?_, rfl⟩, h⟩ <;> (simp at hl; omega)
  · rintro ⟨⟨l, h0, h1, rfl⟩, h⟩
    exact ⟨⟨l, by simp; omega, rfl⟩, h⟩
theorem wordsFrom_mem {G : ByteArray → Bool} : ∀ (n : Nat) {u v : ByteArray}, v ∈ wordsFrom G u (n + 1) ↔ ∃ u', u' ∈ nextW G u ∧ v ∈ wordsFrom G u' n
  | 0, u, v => by simp [wordsFrom]
  | n + 1, u, v => by
    rw [wordsFrom, List.mem_flatMap]
    constructor
    · rintro ⟨t, ht, hv⟩
      obtain ⟨u', h1, h2⟩ := (wordsFrom_mem n).1 ht
      exact ⟨u', h1, by rw [wordsFrom, List.mem_flatMap]; exact ⟨t, h2, hv⟩⟩
    · rintro ⟨u', h1, h2⟩
      rw [wordsFrom, List.mem_flatMap] at h2
      obtain ⟨t, h3, h4⟩ := h2
      exact ⟨t, (wordsFrom_mem n).2 ⟨u', h1, h3⟩, h4⟩
theorem wordsFrom_size {G : ByteArray → Bool} : ∀ (n : Nat) {u v : ByteArray}, v ∈ wordsFrom G u n → v.size = u.size + n
  | 0, u, v, h => by simp [wordsFrom] at h; rw [h]; rfl
  | n + 1, u, v, h => by
    rw [wordsFrom, List.mem_flatMap] at h
    obtain ⟨t, h1, h2⟩ := h
    obtain ⟨⟨l, _, _, rfl⟩, _⟩ := nextW_mem.1 h2
    rw [app_size, wordsFrom_size n h1]
    omega
theorem accB_zero (bs : List Bool) : accB bs 0 = false := by
  unfold accB bitsTo
  simp
theorem moveN_zero (es : List Ed) (l : Int) : moveN es 0 l = 0 := by
  apply Nat.eq_of_testBit_eq
  intro i
  rw [moveN_bit]
  simp [mvB]
theorem sameF_zero (es es' : List Ed) (bs bs' : List Bool) : ∀ k, sameF es es' bs bs' k 0 0 = true
  | 0 => by simp [sameF, accB_zero]
  | k + 1 => by simp [sameF, accB_zero]
theorem sameF_iff {es es' : List Ed} {bs bs' : List Bool} {G : ByteArray → Bool} (hG : ∀ u : ByteArray, u.size ≤ 12 → (G u = true ↔ runB es u ≠ 0 ∨ runB es' u ≠ 0)) :
    ∀ (k : Nat) (u : ByteArray), u.size + k ≤ 12 → (sameF es es' bs bs' k (runB es u) (runB es' u) = true ↔ ∀ n, n ≤ k → ∀ v, v ∈ wordsFrom G u n → accB bs (runB es v) = accB bs' (runB es' v))
  | 0, u, hu => by
    simp only [sameF, beq_iff_eq]
    constructor
    · intro h n hn v hv
      obtain rfl : n = 0 := by omega
      simp [wordsFrom] at hv
      rw [hv]; exact h
    · intro h
      exact h 0 (Nat.le_refl _) u (by simp [wordsFrom])
  | k + 1, u, hu => by
    simp only [sameF, Bool.and_eq_true, beq_iff_eq, Bool.or_eq_true, decide_eq_true_eq, List.all_eq_true]
    have hnx : ∀ l : Int, 97 ≤ l → l ≤ 100 → moveN es (runB es u) l = runB es (u ++ strOfNums [l]) ∧ moveN es' (runB es' u) l = runB es' (u ++ strOfNums [l]) := fun l h0 h1 => ⟨(runB_app es u l (by omega) (by omega)).symm, (runB_app es' u l (by omega) (by omega)).symm⟩
    constructor
    · rintro ⟨h1, h2⟩ n hn v hv
      rcases n with _ | n
      · simp [wordsFrom] at hv
        rw [hv]; exact h1
      · obtain ⟨u', h3, h4⟩ := (wordsFrom_mem n).1 hv
        obtain ⟨⟨l, h0, hl, rfl⟩, hg⟩ := nextW_mem.1 h3
        obtain ⟨e1, e2⟩ := hnx l h0 hl
        rcases h2 with h2 | h2
        · obtain ⟨z1, z2⟩ := Nat.or_eq_zero_iff.1 h2
          have := (hG _ (by rw [app_size]; omega)).1 hg
          rw [← e1, ← e2, z1, z2, moveN_zero, moveN_zero] at this
          simp at this
        · have h5 := h2 l (by simp; omega)
          rw [e1, e2] at h5
          exact (sameF_iff hG k _ (by rw [app_size]; omega)).1 h5 n (by omega) v h4
    · intro h
      refine ⟨h 0 (by omega) u (by simp [wordsFrom]), .inr fun l hl => ?_⟩
      have h0 : 97 ≤ l := by simp at hl; omega
      have h1 : l ≤ 100 := by simp at hl; omega
      obtain ⟨e1, e2⟩ := hnx l h0 h1
      rw [e1, e2]
      cases hg : G (u ++ strOfNums [l])
      · have hn : ¬ (runB es (u ++ strOfNums [l]) ≠ 0 ∨ runB es' (u ++ strOfNums [l]) ≠ 0) := fun hh => by
          rw [(hG _ (by rw [app_size]; omega)).2 hh] at hg
          cases hg
        have z1 : runB es (u ++ strOfNums [l]) = 0 := Classical.byContradiction fun hh => hn (.inl hh)
        have z2 : runB es' (u ++ strOfNums [l]) = 0 := Classical.byContradiction fun hh => hn (.inr hh)
        rw [z1, z2]
        exact sameF_zero _ _ _ _ _
      · exact (sameF_iff hG k _ (by rw [app_size]; omega)).2 fun n hn v hv => h (n + 1) (by omega) v ((wordsFrom_mem n).2 ⟨_, nextW_mem.2 ⟨⟨l, h0, h1, rfl⟩, hg⟩, hv⟩)
/-- Does a word lead anywhere. -/
noncomputable def gB (s : Int) (es : List Ed) (u : ByteArray) : Bool := tkB s es (List.replicate s.toNat true) u
theorem runN_in {s : Int} {es : List Ed} {bs : List Bool} (h : NOk s es bs) : ∀ (l : List UInt8) (S : Nat), InS S bs.length → InS (l.foldl (fun S c => moveN es S (c.toNat : Int)) S) bs.length
  | [], _, hS => hS
  | _ :: l, _, _ => runN_in h l _ (InS.move h.inT)
theorem gB_iff {s : Int} {es : List Ed} {bs : List Bool} (h : NOk s es bs) {u : ByteArray} (hu : u.size ≤ 12) : gB s es u = true ↔ runB es u ≠ 0 := by
  have hs : s.toNat = bs.length := by have := h.2.1; omega
  have h2 : NOk s es (List.replicate s.toNat true) := ⟨h.1, by rw [List.length_replicate]; have := h.1; omega, h.2.2⟩
  have hin : InS (runN es u.data.toList) bs.length := runN_in h _ _ (InS.one (by have h1 := h.1; have h2 := h.2.1; omega))
  unfold gB
  rw [tkB_yes hu h2, accB_iff (by rw [List.length_replicate, hs]; exact hin) (by rw [List.length_replicate]; have := h.1; omega)]
  constructor
  · rintro ⟨i, _, hi, _⟩ hz
    unfold runB at hz
    rw [hz] at hi
    simp at hi
  · intro hne
    obtain ⟨i, hi⟩ := Nat.exists_testBit_of_ne_zero hne
    have hi2 := hin i hi
    exact ⟨i, by rw [List.length_replicate]; omega, hi, by simp [List.getD, show i < s.toNat by omega]⟩
/-- Both words' tests. -/
noncomputable def gAB (s t : Int) (es es' : List Ed) (u : ByteArray) : Bool := gB s es u || gB t es' u
/-- What SameWords says. -/
noncomputable def swB (s t : Int) (es es' : List Ed) (bs bs' : List Bool) : Bool := PP (NOk s es bs ∧ NOk t es' bs') && sameF es es' bs bs' 6 1 1
theorem swB_no {s t : Int} {es es' : List Ed} {bs bs' : List Bool} (h : ¬ (NOk s es bs ∧ NOk t es' bs')) : swB s t es es' bs bs' = false := by unfold swB; rw [PP_no h]; rfl
theorem swB_yes {s t : Int} {es es' : List Ed} {bs bs' : List Bool} (h1 : NOk s es bs) (h2 : NOk t es' bs') : swB s t es es' bs bs' = sameF es es' bs bs' 6 1 1 := by unfold swB; rw [PP_yes ⟨h1, h2⟩]; rfl
def emptyW : ByteArray := ⟨#[]⟩
theorem swB_iff {s t : Int} {es es' : List Ed} {bs bs' : List Bool} (h1 : NOk s es bs) (h2 : NOk t es' bs') : swB s t es es' bs bs' = true ↔ ∀ n, n ≤ 6 → ∀ v, v ∈ wordsFrom (gAB s t es es') emptyW n → tkB s es bs v = tkB t es' bs' v := by
  rw [swB_yes h1 h2]
  have h := sameF_iff (es := es) (es' := es') (bs := bs) (bs' := bs') (G := gAB s t es es') (fun u hu => by unfold gAB; rw [Bool.or_eq_true, gB_iff h1 hu, gB_iff h2 hu]) 6 emptyW (by unfold emptyW; simp [ByteArray.size])
  rw [show runB es emptyW = 1 by rfl, show runB es' emptyW = 1 by rfl] at h
  rw [h]
  constructor
  · intro hh n hn v hv
    have hz := wordsFrom_size n hv
    have hz2 : v.size ≤ 12 := by
      have e0 : emptyW.size = 0 := rfl
      omega
    rw [tkB_yes hz2 h1, tkB_yes hz2 h2]
    exact hh n hn v hv
  · intro hh n hn v hv
    have hz := wordsFrom_size n hv
    have hz2 : v.size ≤ 12 := by
      have e0 : emptyW.size = 0 := rfl
      omega
    have := hh n hn v hv
    rw [tkB_yes hz2 h1, tkB_yes hz2 h2] at this
    exact this
end Go.Proofs.Ytgpjgigmlgoiiaa
