/- Bags as texts, plain: what a bag's text is; what is read from a text, by two ways of reading. No conditions. -/
import Derived.Test.YtdikkfhdogkniaaBagP
import Derived.Test.YtdikkfhdogkniaaPP
import Derived.Test.YtdikkfhdogkniaaVtL
import Derived.Test.YtdikkfhdogkniaaScan
namespace Go.Proofs.Ytdikkfhdogkniaa
open Go.RowKit

def rowT (r : List Int) : List Int := r.flatMap fun z => vt z.toNat
def itT (x : It) : List Int := vt x.r.length ++ (rowT x.r ++ vt x.t.toNat)
def itsT (ps : List It) : List Int := ps.flatMap itT
def bText (ps : List It) : List Int := vt ps.length ++ itsT ps
noncomputable def btVal (ps : List It) : Value := if PP (BgOk ps) then .tuple #[.string (strOfNums (bText ps)), .bool true] else .tuple #[.string ⟨#[]⟩, .bool false]
theorem btVal_is (ps : List It) : ∃ t r, btVal ps = .tuple #[.string t, .bool r] := by
  unfold btVal
  split
  · exact ⟨_, _, rfl⟩
  · exact ⟨_, _, rfl⟩
theorem itsT_append (a b : List It) : itsT (a ++ b) = itsT a ++ itsT b := by simp [itsT]
theorem itsT_next {ps : List It} {k : Nat} (h : k < ps.length) : itsT (ps.take (k + 1)) = itsT (ps.take k) ++ itT ps[k] := by
  rw [List.take_succ_eq_append_getElem h, itsT_append]
  simp [itsT]
theorem rowT_next {r : List Int} {k : Nat} (h : k < r.length) : rowT (r.take (k + 1)) = rowT (r.take k) ++ vt (r[k]).toNat := by
  unfold rowT
  rw [List.take_succ_eq_append_getElem h, List.flatMap_append]
  congr 1
  simp
theorem rowT_byte (r : List Int) : ∀ z ∈ rowT r, 0 ≤ z ∧ z ≤ 255 := by
  intro z hz
  obtain ⟨y, _, hy⟩ := List.mem_flatMap.1 hz
  exact vt_byte _ z hy
theorem itT_byte (x : It) : ∀ z ∈ itT x, 0 ≤ z ∧ z ≤ 255 := byte_app (vt_byte _) (byte_app (rowT_byte _) (vt_byte _))
theorem itsT_byte (ps : List It) : ∀ z ∈ itsT ps, 0 ≤ z ∧ z ≤ 255 := by
  intro z hz
  obtain ⟨y, _, hy⟩ := List.mem_flatMap.1 hz
  exact itT_byte y z hy
theorem bText_byte (ps : List It) : ∀ z ∈ bText ps, 0 ≤ z ∧ z ≤ 255 := byte_app (vt_byte _) (itsT_byte _)
theorem bText_ne (ps : List It) : bText ps ≠ [] := by
  unfold bText
  have := vt_ne ps.length
  simp [this]
theorem rowT_len (r : List Int) (h : ∀ z ∈ r, z ≤ 1000000000) : (rowT r).length ≤ 5 * r.length := by
  induction r with
  | nil => simp [rowT]
  | cons z r ih =>
    have h1 := ih (fun y hy => h y (by simp [hy]))
    have h2 := vt_len5 (show z.toNat ≤ 1000000000 by have := h z (by simp); omega)
    simp only [rowT, List.flatMap_cons, List.length_append, List.length_cons] at h1 ⊢
    omega
theorem itT_len {x : It} (h : ItOk x) : (itT x).length ≤ 30 := by
  have h1 := vt_len5 (show x.r.length ≤ 1000000000 by have := h.1.1; omega)
  have h2 := rowT_len x.r (fun z hz => by have := (h.1.2 z hz).2; omega)
  have h3 := vt_len5 (show x.t.toNat ≤ 1000000000 by have := h.2; omega)
  have := h.1.1
  simp only [itT, List.length_append]
  omega

theorem bsFrom_add (s : ByteArray) : ∀ (k a m : Nat), bsFrom s a (k + m) = bsFrom s a k ++ bsFrom s (a + k) m
  | 0, a, m => by simp [bsFrom]
  | k + 1, a, m => by
    rw [show k + 1 + m = (k + m) + 1 by omega]
    simp only [bsFrom, List.cons_append]
    rw [bsFrom_add s k (a + 1) m, show a + 1 + k = a + (k + 1) by omega]
theorem bsFrom_len (s : ByteArray) : ∀ (k a : Nat), (bsFrom s a k).length = k
  | 0, _ => rfl
  | k + 1, a => by simp [bsFrom, bsFrom_len s k]
theorem rvGo_text (s : ByteArray) (a : Nat) : ∀ (f k n e : Nat), (∀ j, j < k → 128 ≤ byteAt s (a + j)) → rvGo s a f k = some (n, e) → a < e ∧ e ≤ s.size ∧ bsFrom s a (e - a) = vt n
  | 0, _, _, _, _, h => by cases h
  | f + 1, k, n, e, hall, h => by
    rw [rvGo] at h
    split at h
    · rename_i h1
      split at h
      · rename_i h2
        split at h
        · rename_i h3
          injection h with h
          injection h with h4 h5
          subst h4 h5
          refine ⟨by omega, by omega, ?_⟩
          rw [show a + k + 1 - a = k + 1 by omega]
          exact ((vt_canon s k a hall h2).2 h3.2).symm
        · cases h
      · rename_i h2
        refine rvGo_text s a f (k + 1) n e (fun j hj => ?_) h
        by_cases hjk : j < k
        · exact hall j hjk
        · obtain rfl : j = k := by omega
          omega
    · cases h
theorem rvOut_text {s : ByteArray} {a n e : Nat} (h : rvOut s a = some (n, e)) : a < e ∧ e ≤ s.size ∧ bsFrom s a (e - a) = vt n := by
  unfold rvOut at h
  split at h
  · exact rvGo_text s _ 5 0 n e (fun j hj => absurd hj (by omega)) h
  · cases h
theorem scNum_some {s : ByteArray} {st : Option Nat} {n e : Nat} (h : scNum s st = some (n, e)) : ∃ a, st = some a ∧ a < e ∧ e ≤ s.size ∧ bsFrom s a (e - a) = vt n := by
  cases st with
  | none => cases h
  | some a => exact ⟨a, rfl, rvOut_text h⟩
theorem bs_join {s : ByteArray} {a b c : Nat} {x y : List Int} (h1 : a ≤ b) (h2 : b ≤ c) (hx : bsFrom s a (b - a) = x) (hy : bsFrom s b (c - b) = y) : bsFrom s a (c - a) = x ++ y := by
  rw [show c - a = (b - a) + (c - b) by omega, bsFrom_add, hx, show a + (b - a) = b by omega, hy]
theorem snd_some {α : Type} {r : Option (α × Nat)} {e : Nat} (h : r.map Prod.snd = some e) : ∃ n, r = some (n, e) := by
  cases r with
  | none => cases h
  | some p => obtain ⟨n, x⟩ := p; simp at h; subst h; exact ⟨n, rfl⟩
theorem str_all (s : ByteArray) : strOfNums (bsFrom s 0 s.size) = s := by
  rw [bs_extract s s.size 0 (by omega)]
  simp
/-- At most k numbers are read, till the text is bad. -/
def rdNums (s : ByteArray) : Nat → Option Nat → List Int × Option Nat
  | 0, st => ([], st)
  | _ + 1, none => ([], none)
  | k + 1, some a => ((scVal (scNum s (some a)) : Int) :: (rdNums s k ((scNum s (some a)).map Prod.snd)).1, (rdNums s k ((scNum s (some a)).map Prod.snd)).2)
theorem rdNums_none (s : ByteArray) (k : Nat) : rdNums s k none = ([], none) := by cases k <;> rfl
theorem rdNums_len (s : ByteArray) : ∀ (k : Nat) (st : Option Nat), (rdNums s k st).1.length ≤ k
  | 0, _ => by simp [rdNums]
  | k + 1, none => by simp [rdNums]
  | k + 1, some a => by
    have := rdNums_len s k ((scNum s (some a)).map Prod.snd)
    simp only [rdNums, List.length_cons]
    omega
/-- The width that is read; the row; the item. -/
def rdRow (s : ByteArray) (a : Nat) : List Int × Option Nat := rdNums s (min (scVal (scNum s (some a))) 10) ((scNum s (some a)).map Prod.snd)
def rdIt (s : ByteArray) (a : Nat) : It × Option Nat := (⟨(rdRow s a).1, scVal (scNum s (rdRow s a).2)⟩, (scNum s (rdRow s a).2).map Prod.snd)
def rdIts (s : ByteArray) : Nat → Option Nat → List It × Option Nat
  | 0, st => ([], st)
  | _ + 1, none => ([], none)
  | k + 1, some a => ((rdIt s a).1 :: (rdIts s k (rdIt s a).2).1, (rdIts s k (rdIt s a).2).2)
theorem rdIts_none (s : ByteArray) (k : Nat) : rdIts s k none = ([], none) := by cases k <;> rfl
theorem rdIts_len (s : ByteArray) : ∀ (k : Nat) (st : Option Nat), (rdIts s k st).1.length ≤ k
  | 0, _ => by simp [rdIts]
  | k + 1, none => by simp [rdIts]
  | k + 1, some a => by
    have := rdIts_len s k (rdIt s a).2
    simp only [rdIts, List.length_cons]
    omega
theorem rdIts_full (s : ByteArray) : ∀ (k : Nat) (st : Option Nat), (rdIts s k st).2 ≠ none → (rdIts s k st).1.length = k
  | 0, _, _ => rfl
  | k + 1, none, h => absurd rfl h
  | k + 1, some a, h => by
    simp only [rdIts] at h ⊢
    rw [List.length_cons, rdIts_full s k _ h]
def rbCount (s : ByteArray) : Option (Nat × Nat) := scNum s (some 0)
def rbIts (s : ByteArray) : List It × Option Nat := rdIts s (min (scVal (rbCount s)) 310) ((rbCount s).map Prod.snd)
theorem rdNums_text (s : ByteArray) : ∀ (k a e : Nat), (rdNums s k (some a)).2 = some e → a ≤ e ∧ (rdNums s k (some a)).1.length = k ∧ (a ≤ s.size → e ≤ s.size) ∧ bsFrom s a (e - a) = rowT (rdNums s k (some a)).1
  | 0, a, e, h => by
    simp only [rdNums] at h ⊢
    injection h with h
    subst h
    refine ⟨Nat.le_refl _, rfl, fun h => h, ?_⟩
    rw [Nat.sub_self]
    rfl
  | k + 1, a, e, h => by
    simp only [rdNums] at h ⊢
    obtain ⟨st, hst⟩ : ∃ st, (scNum s (some a)).map Prod.snd = st := ⟨_, rfl⟩
    rw [hst] at h ⊢
    cases st with
    | none => rw [rdNums_none] at h; cases h
    | some b =>
      obtain ⟨n, hn⟩ := snd_some hst
      obtain ⟨a', ha, d1, d2, d3⟩ := scNum_some hn
      injection ha with ha
      subst ha
      obtain ⟨g1, g2, g3, g4⟩ := rdNums_text s k b e h
      refine ⟨by omega, by simp [g2], fun _ => g3 d2, ?_⟩
      rw [hn]
      simp only [scVal, Option.map, Option.getD, rowT, List.flatMap_cons, Int.toNat_natCast]
      exact bs_join (by omega) g1 d3 g4
theorem rdIt_text {s : ByteArray} {a e : Nat} (h : (rdIt s a).2 = some e) (hr : (rdIt s a).1.r.length ≤ 4) : a < e ∧ e ≤ s.size ∧ bsFrom s a (e - a) = itT (rdIt s a).1 := by
  unfold rdIt at h hr ⊢
  simp only at h hr ⊢
  obtain ⟨t, h3⟩ := snd_some h
  obtain ⟨e2, he2, b1, b2, b3⟩ := scNum_some h3
  rw [h3]
  unfold rdRow at he2 hr ⊢
  obtain ⟨st, hst⟩ : ∃ st, (scNum s (some a)).map Prod.snd = st := ⟨_, rfl⟩
  rw [hst] at he2 hr ⊢
  cases st with
  | none => rw [rdNums_none] at he2; cases he2
  | some b =>
    obtain ⟨n, hn⟩ := snd_some hst
    obtain ⟨a', ha, d1, d2, d3⟩ := scNum_some hn
    injection ha with ha
    subst ha
    obtain ⟨g1, g2, g3, g4⟩ := rdNums_text s _ b e2 he2
    rw [hn] at g2 g4 hr ⊢
    rw [g2] at hr
    simp only [scVal, Option.map, Option.getD] at g2 g4 hr ⊢
    rw [Nat.min_eq_left (by omega)] at g2 g4 ⊢
    refine ⟨by omega, b2, ?_⟩
    simp only [itT, Int.toNat_natCast]
    rw [g2]
    exact bs_join (by omega) (by omega) d3 (bs_join g1 (by omega) g4 b3)
theorem rdIts_text (s : ByteArray) : ∀ (k a e : Nat), (rdIts s k (some a)).2 = some e → (∀ x ∈ (rdIts s k (some a)).1, x.r.length ≤ 4) → a ≤ e ∧ (a ≤ s.size → e ≤ s.size) ∧ bsFrom s a (e - a) = itsT (rdIts s k (some a)).1
  | 0, a, e, h, _ => by
    simp only [rdIts] at h ⊢
    injection h with h
    subst h
    refine ⟨Nat.le_refl _, fun h => h, ?_⟩
    rw [Nat.sub_self]
    rfl
  | k + 1, a, e, h, hr => by
    simp only [rdIts] at h hr ⊢
    obtain ⟨st, hst⟩ : ∃ st, (rdIt s a).2 = st := ⟨_, rfl⟩
    rw [hst] at h hr ⊢
    cases st with
    | none => rw [rdIts_none] at h; cases h
    | some b =>
      obtain ⟨h1, h2, h3⟩ := rdIt_text hst (hr _ (by simp))
      obtain ⟨g1, g3, g4⟩ := rdIts_text s k b e h (fun x hx => hr x (by simp [hx]))
      refine ⟨by omega, fun _ => g3 h2, ?_⟩
      simp only [itsT, List.flatMap_cons]
      exact bs_join (by omega) g1 h3 g4
theorem rb_text {s : ByteArray} {e : Nat} (h : (rbIts s).2 = some e) (hok : BgOk (rbIts s).1) : scVal (rbCount s) = (rbIts s).1.length ∧ bsFrom s 0 (e - 0) = bText (rbIts s).1 ∧ e ≤ s.size := by
  have hr : ∀ x ∈ (rbIts s).1, x.r.length ≤ 4 := fun x hx => (hok.it hx).1.1
  have hl := hok.1
  unfold rbIts at h hr hl ⊢
  have hf := rdIts_full s (min (scVal (rbCount s)) 310) ((rbCount s).map Prod.snd) (by rw [h]; simp)
  rw [hf] at hl
  have hm : min (scVal (rbCount s)) 310 = scVal (rbCount s) := by omega
  rw [hm] at hf h hr ⊢
  obtain ⟨st, hst⟩ : ∃ st, (rbCount s).map Prod.snd = st := ⟨_, rfl⟩
  rw [hst] at h hr hf ⊢
  cases st with
  | none => rw [rdIts_none] at h; cases h
  | some b =>
    obtain ⟨n, hn⟩ := snd_some hst
    have hn' : scNum s (some 0) = some (n, b) := hn
    obtain ⟨a', ha, d1, d2, d3⟩ := scNum_some hn'
    injection ha with ha
    subst ha
    obtain ⟨g1, g3, g4⟩ := rdIts_text s _ b e h hr
    refine ⟨hf.symm, ?_, g3 d2⟩
    unfold bText
    rw [hf]
    refine bs_join (by omega) g1 ?_ g4
    rw [d3, hn]
    rfl
open Classical in
/-- What is read: by the program; by the reference. -/
noncomputable def rbOut (s : ByteArray) : Option (List It) := if (rbIts s).2 = some s.size ∧ BgOk (rbIts s).1 then some (rbIts s).1 else none
open Classical in
noncomputable def rbOut2 (s : ByteArray) : Option (List It) := if (rbIts s).2 ≠ none ∧ BgOk (rbIts s).1 ∧ strOfNums (bText (rbIts s).1) = s then some (rbIts s).1 else none
theorem rbOut2_eq (s : ByteArray) : rbOut2 s = rbOut s := by
  unfold rbOut rbOut2
  by_cases h : (rbIts s).2 = some s.size ∧ BgOk (rbIts s).1
  · have h3 : strOfNums (bText (rbIts s).1) = s := by
      have := (rb_text h.1 h.2).2.1
      rw [Nat.sub_zero] at this
      rw [← this]
      exact str_all s
    have h2 : (rbIts s).2 ≠ none := by rw [h.1]; simp
    rw [if_pos h, if_pos ⟨h2, h.2, h3⟩]
  · rw [if_neg h, if_neg]
    rintro ⟨h1, h2, h3⟩
    obtain ⟨e, he⟩ : ∃ e, (rbIts s).2 = some e := by
      cases h : (rbIts s).2 with
      | none => exact absurd h h1
      | some e => exact ⟨e, rfl⟩
    have ht := rb_text he h2
    rw [← ht.2.1, Nat.sub_zero] at h3
    have := congrArg ByteArray.size h3
    rw [strOfNums_size, bsFrom_len] at this
    subst this
    exact h ⟨he, h2⟩
end Go.Proofs.Ytdikkfhdogkniaa
