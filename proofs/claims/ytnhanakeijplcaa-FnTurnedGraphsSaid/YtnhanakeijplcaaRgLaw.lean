/- ReadGraph in plain numbers: what is read with at most 41 edges and a whole text, and what is read with at most 50 edges and written back, are one. Conditions: none. -/
import Derived.Test.YtnhanakeijplcaaReadGraph
namespace Go.Proofs.Ytnhanakeijplcaa
open Go.RowKit

theorem bsFrom_add (s : ByteArray) : ∀ (k a m : Nat), bsFrom s a (k + m) = bsFrom s a k ++ bsFrom s (a + k) m
  | 0, a, m => by simp [bsFrom]
  | k + 1, a, m => by
    rw [show k + 1 + m = (k + m) + 1 by omega]
    simp only [bsFrom, List.cons_append]
    rw [bsFrom_add s k (a + 1) m, show a + 1 + k = a + (k + 1) by omega]
theorem bsFrom_len (s : ByteArray) : ∀ (k a : Nat), (bsFrom s a k).length = k
  | 0, _ => rfl
  | k + 1, a => by simp [bsFrom, bsFrom_len s k]
theorem rvGo_text (s : ByteArray) (a : Nat) : ∀ (f k n e : Nat), (∀ j, j < k → 128 ≤ byteAt s (a + j)) → rvGo s a f k = some (n, e) → a < e ∧ e ≤ s.size ∧ bsFrom s a (e - a) = vt n
  | 0, _, _, _, _, h => by cases h
  | f + 1, k, n, e, hall, h => by
    rw [rvGo] at h
    split at h
    · rename_i h1
      split at h
      · rename_i h2
        split at h
        · rename_i h3
          injection h with h
          injection h with h4 h5
          subst h4 h5
          refine ⟨by omega, by omega, ?_⟩
          rw [show a + k + 1 - a = k + 1 by omega]
          exact ((vt_canon s k a hall h2).2 h3.2).symm
        · cases h
      · rename_i h2
        refine rvGo_text s a f (k + 1) n e (fun j hj => ?_) h
        by_cases hjk : j < k
        · exact hall j hjk
        · obtain rfl : j = k := by omega
          omega
    · cases h
theorem rvOut_text {s : ByteArray} {a n e : Nat} (h : rvOut s a = some (n, e)) : a < e ∧ e ≤ s.size ∧ bsFrom s a (e - a) = vt n := by
  unfold rvOut at h
  split at h
  · exact rvGo_text s _ 5 0 n e (fun j hj => absurd hj (by omega)) h
  · cases h
theorem scNum_some {s : ByteArray} {st : Option Nat} {n e : Nat} (h : scNum s st = some (n, e)) : ∃ a, st = some a ∧ a < e ∧ e ≤ s.size ∧ bsFrom s a (e - a) = vt n := by
  cases st with
  | none => cases h
  | some a => exact ⟨a, rfl, rvOut_text h⟩
theorem scByte_some {s : ByteArray} {st : Option Nat} {n e : Nat} (h : scByte s st = some (n, e)) : ∃ a, st = some a ∧ a < e ∧ e ≤ s.size ∧ bsFrom s a (e - a) = [(n : Int)] := by
  cases st with
  | none => cases h
  | some a =>
    simp only [scByte] at h
    split at h
    · injection h with h
      injection h with h1 h2
      subst h1 h2
      exact ⟨a, rfl, by omega, by omega, by rw [show a + 1 - a = 1 by omega]; rfl⟩
    · cases h
theorem bs_join {s : ByteArray} {a b c : Nat} {x y : List Int} (h1 : a ≤ b) (h2 : b ≤ c) (hx : bsFrom s a (b - a) = x) (hy : bsFrom s b (c - b) = y) : bsFrom s a (c - a) = x ++ y := by
  rw [show c - a = (b - a) + (c - b) by omega, bsFrom_add, hx, show a + (b - a) = b by omega, hy]
theorem snd_some {α : Type} {r : Option (α × Nat)} {e : Nat} (h : r.map Prod.snd = some e) : ∃ n, r = some (n, e) := by
  cases r with
  | none => cases h
  | some p => obtain ⟨n, x⟩ := p; simp at h; subst h; exact ⟨n, rfl⟩
theorem rdEd_text {s : ByteArray} {a e : Nat} (h : (rdEd s (some a)).2 = some e) : a < e ∧ e ≤ s.size ∧ bsFrom s a (e - a) = edT (rdEd s (some a)).1 := by
  unfold rdEd at h ⊢
  simp only at h ⊢
  obtain ⟨t, h3⟩ := snd_some h
  obtain ⟨e2, he2, b1, b2, b3⟩ := scNum_some h3
  obtain ⟨l, h2⟩ := snd_some he2
  obtain ⟨e1, he1, c1, c2, c3⟩ := scByte_some h2
  obtain ⟨f, h1⟩ := snd_some he1
  obtain ⟨a', ha, d1, d2, d3⟩ := scNum_some h1
  injection ha with ha
  subst ha
  refine ⟨by omega, b2, ?_⟩
  rw [h3, h2, h1]
  simp only [edT, scVal, Option.map, Option.getD, Int.toNat_natCast]
  exact bs_join (by omega) (by omega) d3 (bs_join (by omega) (by omega) c3 b3)
theorem rdEds_text (s : ByteArray) : ∀ (k a : Nat) (e : Nat), (rdEds s k (some a)).2 = some e → a ≤ e ∧ (rdEds s k (some a)).1.length = k ∧ (a ≤ s.size → e ≤ s.size) ∧ bsFrom s a (e - a) = edsT (rdEds s k (some a)).1
  | 0, a, e, h => by
    simp only [rdEds] at h ⊢
    injection h with h
    subst h
    refine ⟨Nat.le_refl _, rfl, fun h => h, ?_⟩
    rw [Nat.sub_self]
    rfl
  | k + 1, a, e, h => by
    simp only [rdEds] at h ⊢
    obtain ⟨st, hst⟩ : ∃ st, (rdEd s (some a)).2 = st := ⟨_, rfl⟩
    rw [hst] at h ⊢
    cases st with
    | none => rw [rdEds_none] at h; cases h
    | some b =>
      obtain ⟨h1, h2, h3⟩ := rdEd_text hst
      obtain ⟨g1, g2, g3, g4⟩ := rdEds_text s k b e h
      refine ⟨by omega, by simp [g2], fun _ => g3 h2, ?_⟩
      simp only [edsT]
      exact bs_join (by omega) g1 h3 g4
theorem str_all (s : ByteArray) : strOfNums (bsFrom s 0 s.size) = s := by
  rw [bs_extract s s.size 0 (by omega)]
  simp
/-- What is read is written back just where it is the whole text. -/
theorem rg_back {s : ByteArray} {m e : Nat} (h : (rgEds s m).2 = some e) (hm : scVal (rgCount s) ≤ m) :
    (rgEds s m).1.length = scVal (rgCount s) ∧ (strOfNums (gText (scVal (rgSize s) : Nat) (rgEds s m).1) = s ↔ e = s.size) := by
  unfold rgEds at h ⊢
  rw [Nat.min_eq_left hm] at h ⊢
  obtain ⟨st, hst⟩ : ∃ st, (rgCount s).map Prod.snd = st := ⟨_, rfl⟩
  rw [hst] at h ⊢
  cases st with
  | none => rw [rdEds_none] at h; cases h
  | some b =>
    obtain ⟨n, hn⟩ := snd_some hst
    have hn' : scNum s ((rgSize s).map Prod.snd) = some (n, b) := hn
    obtain ⟨a, ha, a1, a2, a3⟩ := scNum_some hn'
    obtain ⟨z, hz⟩ := snd_some ha
    have hz' : scNum s (some 0) = some (z, a) := hz
    obtain ⟨o, ho, o1, o2, o3⟩ := scNum_some hz'
    injection ho with ho
    subst ho
    obtain ⟨g1, g2, g3, g4⟩ := rdEds_text s _ b e h
    refine ⟨g2, ?_⟩
    have hT : bsFrom s 0 (e - 0) = gText (scVal (rgSize s) : Nat) (rdEds s (scVal (rgCount s)) (some b)).1 := by
      unfold gText
      rw [g2, hz, hn]
      simp only [scVal, Option.map, Option.getD, Int.toNat_natCast]
      rw [hn] at g4
      exact bs_join (by omega) g1 (bs_join (by omega) (by omega) o3 a3) g4
    have hes := g3 (by omega)
    rw [← hT, Nat.sub_zero]
    constructor
    · intro h
      have := congrArg ByteArray.size h
      rw [strOfNums_size, bsFrom_len] at this
      omega
    · rintro rfl
      exact str_all s
open Classical in
noncomputable def rgOut2 (s : ByteArray) : Option (Int × List Ed) :=
  if (rgEds s 50).2 ≠ none ∧ GOk (scVal (rgSize s) : Nat) (rgEds s 50).1 ∧ strOfNums (gText (scVal (rgSize s) : Nat) (rgEds s 50).1) = s then some ((scVal (rgSize s) : Nat), (rgEds s 50).1) else none
theorem rgEds_same {s : ByteArray} (h : scVal (rgCount s) ≤ 41) : rgEds s 50 = rgEds s 41 := by
  unfold rgEds
  rw [Nat.min_eq_left h, Nat.min_eq_left (by omega)]
theorem rgOut2_eq (s : ByteArray) : rgOut2 s = rgOut s := by
  unfold rgOut rgOut2
  by_cases hc : scVal (rgCount s) ≤ 41
  · rw [rgEds_same hc]
    by_cases hp : (rgEds s 41).2 = some s.size ∧ (rgEds s 41).1.length = scVal (rgCount s) ∧ GOk (scVal (rgSize s) : Nat) (rgEds s 41).1
    · rw [if_pos hp]
      obtain ⟨h1, h2, h3⟩ := hp
      rw [if_pos ⟨by rw [h1]; simp, h3, (rg_back h1 hc).2.2 rfl⟩]
    · rw [if_neg hp]
      rw [if_neg]
      rintro ⟨h1, h2, h3⟩
      obtain ⟨e, he⟩ : ∃ e, (rgEds s 41).2 = some e := by
        cases h : (rgEds s 41).2 with
        | none => exact absurd h h1
        | some e => exact ⟨e, rfl⟩
      have hb := rg_back he hc
      exact hp ⟨by rw [he, hb.2.1 h3], hb.1, h2⟩
  · rw [if_neg, if_neg]
    · rintro ⟨_, h2, _⟩
      have := rdEds_len s (min (scVal (rgCount s)) 41) ((rgCount s).map Prod.snd)
      have h3 : (rgEds s 41).1.length ≤ min (scVal (rgCount s)) 41 := this
      omega
    · rintro ⟨h1, h2, _⟩
      obtain ⟨e, he⟩ : ∃ e, (rgEds s 50).2 = some e := by
        cases h : (rgEds s 50).2 with
        | none => exact absurd h h1
        | some e => exact ⟨e, rfl⟩
      have hl : (rgEds s 50).1.length = min (scVal (rgCount s)) 50 := by
        unfold rgEds at he ⊢
        cases hst : (rgCount s).map Prod.snd with
        | none => rw [hst, rdEds_none] at he; cases he
        | some b => rw [hst] at he; exact (rdEds_text s _ b e he).2.1
      have := h2.2.1
      omega
end Go.Proofs.Ytnhanakeijplcaa
