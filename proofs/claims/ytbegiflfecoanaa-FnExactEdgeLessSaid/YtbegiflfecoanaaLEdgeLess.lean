/- EdgeLess: program and reference return the same. No conditions. -/
import Derived.Test.YtbegiflfecoanaaToEdge
import Derived.Test.YtbegiflfecoanaaOpenEdge
namespace Go.Proofs.Ytbegiflfecoanaa
open Go.RowKit

set_option maxHeartbeats 1600000 in
theorem FnExactEdgeLess_walk (a : Ed) (ha0 : a.ok) (b : Ed) (hb0 : b.ok) (w : World) : Calls Try.prog 10 #[a.val, b.val] w fun e w' => e = .returned (.bool true) ∧ Below w.heap.size w w' := by
  have ha := ha0.2.1
  have hb := hb0.2.1
  clear ha0 hb0
  have T1 := Lib.hid (fun w => toEdge_any a w)
  have T2 := Lib.hid (fun w => toEdge_any b w)
  have C1 := Lib.hid (fun w => spec_EdgeLess_any a b w)
  have C2 := Lib.hid (fun w => impl_EdgeLess_any a b ha hb w)
  clear ha hb
  obtain ⟨r, hr⟩ : ∃ r, edLess a b = r := ⟨_, rfl⟩
  rw [hr] at C1 C2
  clear hr
  obtain ⟨af, al, at_⟩ := a
  obtain ⟨bf, bl, bt⟩ := b
  unfold Ed.val at T1 T2 C1 C2 ⊢
  go_enter Try.func10, Try.ntmps10
  go_wp2_with fail
  have hB0 : Below w.heap.size w (((w.alloc (.cells #[.int .i64 af, .int .u8 al, .int .i64 at_] 35)).alloc (.cells #[.int .i64 bf, .int .u8 bl, .int .i64 bt] 35)).drew) := (((Below.refl w.heap.size w).alloc (Nat.le_refl _) _).alloc (by simp) _).drew
  go_region_held3 (fun w' => w'.cell? ⟨w.heap.size, 0, none⟩ = some (.int .i64 af) ∧ w'.cell? ⟨w.heap.size, 1, none⟩ = some (.int .u8 al) ∧ w'.cell? ⟨w.heap.size, 2, none⟩ = some (.int .i64 at_) ∧
      w'.cell? ⟨w.heap.size + 1, 0, none⟩ = some (.int .i64 bf) ∧ w'.cell? ⟨w.heap.size + 1, 1, none⟩ = some (.int .u8 bl) ∧ w'.cell? ⟨w.heap.size + 1, 2, none⟩ = some (.int .i64 bt) ∧ Below w.heap.size w w')
    ((first
      | (go_split_ands; refine ⟨held_step hbk (by assumption), held_step hbk (by assumption), held_step hbk (by assumption), held_step hbk (by assumption), held_step hbk (by assumption), held_step hbk (by assumption), below_step (by assumption) hbk⟩)
      | (refine ⟨?_, ?_, ?_, ?_, ?_, ?_, hB0⟩ <;> go_keep)))
    ((first
      | (go_at_call 29; first | ((with_reducible refine (T1.out _).mono ?_); rintro e w' ⟨rfl, hbk⟩) | ((with_reducible refine (T2.out _).mono ?_); rintro e w' ⟨rfl, hbk⟩))
      | (go_at_call 28; refine (C1.out _).mono ?_; rintro e w' ⟨rfl, hbk⟩)
      | (go_at_call 30; refine (C2.out _).mono ?_; rintro e w' ⟨rfl, hbk⟩)))
  clear hB0
  go_split_ands
  go_wp2_with fail
  go_region_held3 (fun w' => w'.cell? ⟨w.heap.size, 0, none⟩ = some (.int .i64 af) ∧ w'.cell? ⟨w.heap.size, 1, none⟩ = some (.int .u8 al) ∧ w'.cell? ⟨w.heap.size, 2, none⟩ = some (.int .i64 at_) ∧
      w'.cell? ⟨w.heap.size + 1, 0, none⟩ = some (.int .i64 bf) ∧ w'.cell? ⟨w.heap.size + 1, 1, none⟩ = some (.int .u8 bl) ∧ w'.cell? ⟨w.heap.size + 1, 2, none⟩ = some (.int .i64 bt) ∧ Below w.heap.size w w')
    ((first
      | (go_split_ands; refine ⟨held_step hbk (by assumption), held_step hbk (by assumption), held_step hbk (by assumption), held_step hbk (by assumption), held_step hbk (by assumption), held_step hbk (by assumption), below_step (by assumption) hbk⟩)
      | (exact ⟨by assumption, by assumption, by assumption, by assumption, by assumption, by assumption, Below.drew (by assumption)⟩)))
    ((first
      | (go_at_call 29; first | ((with_reducible refine (T1.out _).mono ?_); rintro e w' ⟨rfl, hbk⟩) | ((with_reducible refine (T2.out _).mono ?_); rintro e w' ⟨rfl, hbk⟩))
      | (go_at_call 28; refine (C1.out _).mono ?_; rintro e w' ⟨rfl, hbk⟩)
      | (go_at_call 30; refine (C2.out _).mono ?_; rintro e w' ⟨rfl, hbk⟩)))
  go_split_ands
  go_wp2
  go_ret
  exact ⟨rfl, by assumption⟩
end Go.Proofs.Ytbegiflfecoanaa
