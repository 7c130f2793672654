/- The reference's cursor over a text: a number, a byte. Conditions: the text's length. -/
import Derived.Test.YtdikkfhdogkniaaScan
import Derived.Test.YtdikkfhdogkniaaBlk
namespace Go.Proofs.Ytdikkfhdogkniaa
open Go.RowKit
set_option maxRecDepth 100000 in


set_option maxHeartbeats 1600000 in
theorem l03Var_any (g : Nat) (s : ByteArray) (hs : s.size ≤ 4294967296) (st : Option Nat) (w : World) (h : ScAt 76 g s st w) :
    Calls Try.prog 55 #[.pointer (some ⟨g, 0, none⟩)] w (Scans 76 g s w .i64 (scNum s st)) := by
  obtain ⟨a, b, hh, ha, hb, hst⟩ := h
  have c0 := cell_of_row w g 0 _ _ (0, 0) hh
  have c1 := cell_of_row w g 1 _ _ (0, 0) hh
  have c2 := cell_of_row w g 2 _ _ (0, 0) hh
  simp at c0 c1 c2
  have HH := Lib.hid hh
  clear hh
  have C := Lib.hid (fun w => spec_ReadVar_any s hs a w)
  obtain ⟨r, hr⟩ : ∃ r, rvOut s a = r := ⟨_, rfl⟩
  rw [hr] at C
  have HR := Lib.hid hr
  clear hr
  have hB0 : Below w.heap.size w w.drew := (Below.refl _ _).drew
  cases st with
  | none =>
    obtain rfl : b = true := by simpa using hb
    clear hb hst
    rcases r with _ | ⟨n, e⟩
    all_goals
      unfold rvVal at C
      go_enter Try.func55, Try.ntmps55
      go_wp2_with fail
      go_region_held3 (fun w' => w'.cell? ⟨g, 0, none⟩ = some (.string s) ∧ w'.cell? ⟨g, 1, none⟩ = some (.int .i64 a) ∧ w'.cell? ⟨g, 2, none⟩ = some (.bool true) ∧ w'.heap[g]? = some (.cells #[.string s, .int .i64 a, .bool true] 76 (0, 0)) ∧ Below w.heap.size w w')
        ((first
          | (exact ⟨c0, c1, c2, HH.out, hB0⟩)
          | assumption
          | (go_split_ands; exact ⟨held_step hbk (by assumption), held_step hbk (by assumption), held_step hbk (by assumption), blk_below' hbk (by assumption), below_step (by assumption) hbk⟩)))
        ((go_at_call 78; refine (C.out _).mono ?_; rintro e w' ⟨rfl, hbk⟩))
      clear hB0 c0 c1 c2
      go_split_ands
      have hbw : Below w.heap.size w w' := by assumption
      have hbl : w'.heap[g]? = some (.cells #[.string s, .int .i64 a, .bool true] 76 (0, 0)) := by assumption
      have HBL := Lib.hid hbl
      have f2 : w'.frozen? ⟨g, 2, none⟩ = false := frozen_of_row w' g 2 _ _ hbl
      clear hbl
      go_wp2
      go_ret
      exact ⟨rfl, ⟨a, true, heap_setCell_same _ g 2 _ _ _ HBL.out, ha, rfl, fun x hx => by cases hx⟩, only_setCell (only_below2 hbw) 2 _⟩
  | some x =>
    obtain rfl : b = false := by simpa using hb
    obtain rfl : a = x := hst x rfl
    clear hb hst
    rcases r with _ | ⟨n, e⟩
    · have hs1 : scNum s (some a) = none := HR.out
      rw [hs1]
      clear hs1
      unfold rvVal at C
      go_enter Try.func55, Try.ntmps55
      go_wp2_with fail
      go_region_held3 (fun w' => w'.cell? ⟨g, 0, none⟩ = some (.string s) ∧ w'.cell? ⟨g, 1, none⟩ = some (.int .i64 a) ∧ w'.cell? ⟨g, 2, none⟩ = some (.bool false) ∧ w'.heap[g]? = some (.cells #[.string s, .int .i64 a, .bool false] 76 (0, 0)) ∧ Below w.heap.size w w')
        ((first
          | (exact ⟨c0, c1, c2, HH.out, hB0⟩)
          | assumption
          | (go_split_ands; exact ⟨held_step hbk (by assumption), held_step hbk (by assumption), held_step hbk (by assumption), blk_below' hbk (by assumption), below_step (by assumption) hbk⟩)))
        ((go_at_call 78; refine (C.out _).mono ?_; rintro e w' ⟨rfl, hbk⟩))
      clear hB0 c0 c1 c2
      go_split_ands
      have hbw : Below w.heap.size w w' := by assumption
      have hbl : w'.heap[g]? = some (.cells #[.string s, .int .i64 a, .bool false] 76 (0, 0)) := by assumption
      have HBL := Lib.hid hbl
      have f2 : w'.frozen? ⟨g, 2, none⟩ = false := frozen_of_row w' g 2 _ _ hbl
      clear hbl
      go_wp2
      go_ret
      exact ⟨rfl, ⟨a, true, heap_setCell_same _ g 2 _ _ _ HBL.out, ha, rfl, fun x hx => by cases hx⟩, only_setCell (only_below2 hbw) 2 _⟩
    · have hs1 : scNum s (some a) = some (n, e) := HR.out
      rw [hs1]
      clear hs1
      unfold rvVal at C
      go_enter Try.func55, Try.ntmps55
      go_wp2_with fail
      go_region_held3 (fun w' => w'.cell? ⟨g, 0, none⟩ = some (.string s) ∧ w'.cell? ⟨g, 1, none⟩ = some (.int .i64 a) ∧ w'.cell? ⟨g, 2, none⟩ = some (.bool false) ∧ w'.heap[g]? = some (.cells #[.string s, .int .i64 a, .bool false] 76 (0, 0)) ∧ Below w.heap.size w w')
        ((first
          | (exact ⟨c0, c1, c2, HH.out, hB0⟩)
          | assumption
          | (go_split_ands; exact ⟨held_step hbk (by assumption), held_step hbk (by assumption), held_step hbk (by assumption), blk_below' hbk (by assumption), below_step (by assumption) hbk⟩)))
        ((go_at_call 78; refine (C.out _).mono ?_; rintro e w' ⟨rfl, hbk⟩))
      clear hB0 c0 c1 c2
      go_split_ands
      have hbw : Below w.heap.size w w' := by assumption
      have hbl : w'.heap[g]? = some (.cells #[.string s, .int .i64 a, .bool false] 76 (0, 0)) := by assumption
      have HBL := Lib.hid hbl
      have f1 : w'.frozen? ⟨g, 1, none⟩ = false := frozen_of_row w' g 1 _ _ hbl
      clear hbl
      go_wp2
      go_ret
      exact ⟨rfl, ⟨e, false, heap_setCell_same _ g 1 _ _ _ HBL.out, (rvOut_bd2 HR.out).2.1, rfl, fun x hx => by injection hx⟩, only_setCell (only_below2 hbw) 1 _⟩

end Go.Proofs.Ytdikkfhdogkniaa
