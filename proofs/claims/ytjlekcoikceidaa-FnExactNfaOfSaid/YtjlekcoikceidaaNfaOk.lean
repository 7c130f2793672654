/- NfaOk: the program's function and the reference's. Conditions: the labels' range and the size of a length. -/
import Derived.Test.YtjlekcoikceidaaNfa
import Derived.Test.YtjlekcoikceidaaSGraphOk
import Derived.Test.YtjlekcoikceidaaBelowQ
namespace Go.Proofs.Ytjlekcoikceidaa
open Go.RowKit
set_option maxRecDepth 100000 in

theorem spec_l07Less_any (a b : Ed) (w : World) : Calls Try.prog 37 #[a.val, b.val] w fun e w' => e = .returned (.bool (edLess a b)) ∧ Below w.heap.size w w' := by
  obtain ⟨af, al, at_⟩ := a
  obtain ⟨bf, bl, bt⟩ := b
  unfold Ed.val
  by_cases h1 : af = bf
  · subst h1
    by_cases h2 : al = bl
    · subst h2
      rw [show edLess ⟨af, al, at_⟩ ⟨af, al, bt⟩ = decide (at_ < bt) by simp [edLess]]
      go_enter Try.func37, Try.ntmps37
      go_wp2
      go_ret
      exact ⟨rfl, ((Below.refl w.heap.size w).alloc (Nat.le_refl _) _).alloc (by simp) _⟩
    · have b2 : (al != bl) = true := by rw [bne_iff_ne]; exact h2
      rw [show edLess ⟨af, al, at_⟩ ⟨af, bl, bt⟩ = decide (al < bl) by simp [edLess, h2]]
      go_enter Try.func37, Try.ntmps37
      go_wp2
      go_ret
      exact ⟨rfl, ((Below.refl w.heap.size w).alloc (Nat.le_refl _) _).alloc (by simp) _⟩
  · have b1 : (af != bf) = true := by rw [bne_iff_ne]; exact h1
    rw [show edLess ⟨af, al, at_⟩ ⟨bf, bl, bt⟩ = decide (af < bf) by simp [edLess, h1]]
    go_enter Try.func37, Try.ntmps37
    go_wp2
    go_ret
    exact ⟨rfl, ((Below.refl w.heap.size w).alloc (Nat.le_refl _) _).alloc (by simp) _⟩

/-- The order of arcs. -/
def arcCmp (a b : Ed) : Int := cmpI [a.f, a.l, a.t] [b.f, b.l, b.t]
theorem RdI.three (w : World) (a b c : Int) (e : TypeId) {g : Nat} (hg : w.heap.size = g) : RdI (w.alloc (.cells #[.int .i64 a, .int .i64 b, .int .i64 c] e)) (some ⟨g, 0, none⟩) 3 [a, b, c] :=
  Rd.new w #[.int .i64 a, .int .i64 b, .int .i64 c] e hg rfl
set_option maxRecDepth 100000 in
theorem compareArcs_any (a b : Ed) (ha : 0 ≤ a.l ∧ a.l ≤ 255) (hb : 0 ≤ b.l ∧ b.l ≤ 255) (w : World) : Calls Try.prog 25 #[a.val, b.val] w fun e w' => e = .returned (.int .i64 (arcCmp a b)) ∧ Below w.heap.size w w' := by
  obtain ⟨af, al, at_⟩ := a
  obtain ⟨bf, bl, bt⟩ := b
  obtain ⟨ha1, ha2⟩ := ha
  obtain ⟨hb1, hb2⟩ := hb
  simp only at ha1 ha2 hb1 hb2
  unfold Ed.val
  rw [show arcCmp ⟨af, al, at_⟩ ⟨bf, bl, bt⟩ = cmpI [af, al, at_] [bf, bl, bt] from rfl]
  go_enter Try.func25, Try.ntmps25
  go_wp2_with (go_at_call 43; refine (Compare_any _ _ 3 3 3 3 [af, al, at_] [bf, bl, bt] _ ((RdI.three _ _ _ _ _ (by simp)).alloc _) (RdI.three _ _ _ _ _ (by simp)) (by omega) (by omega)).mono ?_; rintro e w1 ⟨rfl, rfl⟩)
  go_ret
  exact ⟨rfl, ((((Below.refl w.heap.size w).alloc (Nat.le_refl _) _).alloc (by simp) _).alloc (by simp; omega) _).alloc (by simp; omega) _⟩
theorem arcCmp_ge (a b : Ed) : decide (0 ≤ arcCmp a b) = !edLess a b := by
  obtain ⟨af, al, at_⟩ := a
  obtain ⟨bf, bl, bt⟩ := b
  unfold arcCmp edLess
  simp only [cmpI]
  by_cases h1 : af = bf
  · subst h1
    by_cases h2 : al = bl
    · subst h2
      rcases (by omega : at_ < bt ∨ at_ = bt ∨ bt < at_) with h | h | h
      · simp [h]
      · simp [h]
      · simp [h, Int.lt_irrefl, show ¬ at_ < bt by omega]
    · rcases (by omega : al < bl ∨ bl < al) with h | h
      · simp [h2, h, Int.lt_irrefl]
      · simp [h2, h, Int.lt_irrefl, show ¬ al < bl by omega]
  · rcases (by omega : af < bf ∨ bf < af) with h | h
    · simp [h1, h]
    · simp [h1, h, show ¬ af < bf by omega]

/-- A valid automaton. -/
def NOk (s : Int) (es : List Ed) (bs : List Bool) : Prop := (1 ≤ s ∧ s ≤ 24) ∧ (bs.length : Int) = s ∧ OkTo s es es.length

end Go.Proofs.Ytjlekcoikceidaa
