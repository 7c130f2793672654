/- The order of edges: reference and program. No conditions. -/
import Derived.Test.YtgpjgigmlgoiiaaCmp
import Derived.Deep.RegionHeld3
import Derived.Deep.QuietTactic
import Derived.BigQuiet
namespace Go.Proofs.Ytgpjgigmlgoiiaa
open Go.RowKit

/-- An edge: from, label, to. -/
structure Ed where
  f : Int
  l : Int
  t : Int
def Ed.val (e : Ed) : Value := .agg #[.int .i64 e.f, .int .u8 e.l, .int .i64 e.t]
def edCmp (a b : Ed) : Int := if a.l ≠ b.l ∧ a.f = b.f then a.l - b.l else cmpI [a.f, a.t] [b.f, b.t]
def edLess (a b : Ed) : Bool := if a.f = b.f then (if a.l = b.l then decide (a.t < b.t) else decide (a.l < b.l)) else decide (a.f < b.f)

set_option maxRecDepth 100000 in
theorem spec_EdgeLess_any (a b : Ed) (w : World) : Calls Try.prog 87 #[a.val, b.val] w fun e w' => e = .returned (.bool (edLess a b)) ∧ Below w.heap.size w w' := by
  obtain ⟨af, al, at_⟩ := a
  obtain ⟨bf, bl, bt⟩ := b
  unfold Ed.val
  by_cases h1 : af = bf
  · subst h1
    by_cases h2 : al = bl
    · subst h2
      rw [show edLess ⟨af, al, at_⟩ ⟨af, al, bt⟩ = decide (at_ < bt) by simp [edLess]]
      go_enter Try.func87, Try.ntmps87
      go_wp2
      go_ret
      exact ⟨rfl, ((Below.refl w.heap.size w).alloc (Nat.le_refl _) _).alloc (by simp) _⟩
    · have b2 : (al != bl) = true := by rw [bne_iff_ne]; exact h2
      rw [show edLess ⟨af, al, at_⟩ ⟨af, bl, bt⟩ = decide (al < bl) by simp [edLess, h2]]
      go_enter Try.func87, Try.ntmps87
      go_wp2
      go_ret
      exact ⟨rfl, ((Below.refl w.heap.size w).alloc (Nat.le_refl _) _).alloc (by simp) _⟩
  · have b1 : (af != bf) = true := by rw [bne_iff_ne]; exact h1
    rw [show edLess ⟨af, al, at_⟩ ⟨bf, bl, bt⟩ = decide (af < bf) by simp [edLess, h1]]
    go_enter Try.func87, Try.ntmps87
    go_wp2
    go_ret
    exact ⟨rfl, ((Below.refl w.heap.size w).alloc (Nat.le_refl _) _).alloc (by simp) _⟩

set_option maxRecDepth 100000 in
theorem compareEdges_any (a b : Ed) (ha : 0 ≤ a.l ∧ a.l ≤ 255) (hb : 0 ≤ b.l ∧ b.l ≤ 255) (w : World) : Calls Try.prog 103 #[a.val, b.val] w fun e w' => e = .returned (.int .i64 (edCmp a b)) ∧ Below w.heap.size w w' := by
  obtain ⟨af, al, at_⟩ := a
  obtain ⟨bf, bl, bt⟩ := b
  obtain ⟨ha1, ha2⟩ := ha
  obtain ⟨hb1, hb2⟩ := hb
  simp only at ha1 ha2 hb1 hb2
  unfold Ed.val
  by_cases h1 : af = bf
  · subst h1
    by_cases h2 : al = bl
    · subst h2
      rw [show edCmp ⟨af, al, at_⟩ ⟨af, al, bt⟩ = cmpI [af, at_] [af, bt] by simp [edCmp]]
      go_enter Try.func103, Try.ntmps103
      go_wp2_with (go_at_call 102; refine (Compare_any _ _ 2 2 2 2 [af, at_] [af, bt] _ ((RdI.two _ _ _ _ (by simp)).alloc _) (RdI.two _ _ _ _ (by simp)) (by omega) (by omega)).mono ?_; rintro e w1 ⟨rfl, rfl⟩)
      go_ret
      exact ⟨rfl, ((((Below.refl w.heap.size w).alloc (Nat.le_refl _) _).alloc (by simp) _).alloc (by simp; omega) _).alloc (by simp; omega) _⟩
    · have b2 : (al != bl) = true := by rw [bne_iff_ne]; exact h2
      rw [show edCmp ⟨af, al, at_⟩ ⟨af, bl, bt⟩ = al - bl by simp [edCmp, h2]]
      go_enter Try.func103, Try.ntmps103
      go_wp2
      go_ret
      exact ⟨rfl, ((Below.refl w.heap.size w).alloc (Nat.le_refl _) _).alloc (by simp) _⟩
  · have b1 : (af == bf) = false := by rw [beq_eq_false_iff_ne]; exact h1
    by_cases h2 : al = bl
    · subst h2
      rw [show edCmp ⟨af, al, at_⟩ ⟨bf, al, bt⟩ = cmpI [af, at_] [bf, bt] by simp [edCmp]]
      go_enter Try.func103, Try.ntmps103
      go_wp2_with (go_at_call 102; refine (Compare_any _ _ 2 2 2 2 [af, at_] [bf, bt] _ ((RdI.two _ _ _ _ (by simp)).alloc _) (RdI.two _ _ _ _ (by simp)) (by omega) (by omega)).mono ?_; rintro e w1 ⟨rfl, rfl⟩)
      go_ret
      exact ⟨rfl, ((((Below.refl w.heap.size w).alloc (Nat.le_refl _) _).alloc (by simp) _).alloc (by simp; omega) _).alloc (by simp; omega) _⟩
    · have b2 : (al != bl) = true := by rw [bne_iff_ne]; exact h2
      rw [show edCmp ⟨af, al, at_⟩ ⟨bf, bl, bt⟩ = cmpI [af, at_] [bf, bt] by simp [edCmp, h1]]
      go_enter Try.func103, Try.ntmps103
      go_wp2_with (go_at_call 102; refine (Compare_any _ _ 2 2 2 2 [af, at_] [bf, bt] _ ((RdI.two _ _ _ _ (by simp)).alloc _) (RdI.two _ _ _ _ (by simp)) (by omega) (by omega)).mono ?_; rintro e w1 ⟨rfl, rfl⟩)
      go_ret
      exact ⟨rfl, ((((Below.refl w.heap.size w).alloc (Nat.le_refl _) _).alloc (by simp) _).alloc (by simp; omega) _).alloc (by simp; omega) _⟩

theorem edCmp_less (a b : Ed) : decide (edCmp a b < 0) = edLess a b := by
  obtain ⟨af, al, at_⟩ := a
  obtain ⟨bf, bl, bt⟩ := b
  unfold edCmp edLess
  simp only [cmpI]
  by_cases h1 : af = bf
  · subst h1
    by_cases h2 : al = bl
    · subst h2
      rcases (by omega : at_ < bt ∨ at_ = bt ∨ bt < at_) with h | h | h
      · simp [h]
      · simp [h]
      · simp [h, Int.lt_irrefl, show ¬ at_ < bt by omega]
    · simp [h2]; omega
  · rcases (by omega : af < bf ∨ bf < af) with h | h
    · simp [h1, h]
    · simp [h1, h, show ¬ af < bf by omega]

set_option maxRecDepth 100000 in
theorem impl_EdgeLess_any (a b : Ed) (ha : 0 ≤ a.l ∧ a.l ≤ 255) (hb : 0 ≤ b.l ∧ b.l ≤ 255) (w : World) : Calls Try.prog 89 #[a.val, b.val] w fun e w' => e = .returned (.bool (edLess a b)) ∧ Below w.heap.size w w' := by
  rw [← edCmp_less]
  have C := Lib.hid (fun w => compareEdges_any a b ha hb w)
  clear ha hb
  obtain ⟨af, al, at_⟩ := a
  obtain ⟨bf, bl, bt⟩ := b
  unfold Ed.val at C ⊢
  go_enter Try.func89, Try.ntmps89
  go_wp2_with (go_at_call 103; refine (C.out _).mono ?_; rintro e w1 ⟨rfl, hb1⟩)
  go_ret
  exact ⟨rfl, (((Below.refl w.heap.size w).alloc (Nat.le_refl _) _).alloc (by simp) _).trans (hb1.mono (by simp; omega))⟩
end Go.Proofs.Ytgpjgigmlgoiiaa
