/- The reference's cursor over a text: a number, a byte. Conditions: the text's length. -/
import Derived.Test.YtnhanakeijplcaaScan
import Derived.Test.YtnhanakeijplcaaBlk
namespace Go.Proofs.Ytnhanakeijplcaa
open Go.RowKit
set_option maxRecDepth 100000 in


set_option maxHeartbeats 1600000 in
theorem l03Var_any (g : Nat) (s : ByteArray) (hs : s.size ≤ 4294967296) (st : Option Nat) (w : World) (h : ScAt 95 g s st w) :
    Calls Try.prog 80 #[.pointer (some ⟨g, 0, none⟩)] w (Scans 95 g s w .i64 (scNum s st)) := by
  obtain ⟨a, b, hh, ha, hb, hst⟩ := h
  have c0 := cell_of_row w g 0 _ _ (0, 0) hh
  have c1 := cell_of_row w g 1 _ _ (0, 0) hh
  have c2 := cell_of_row w g 2 _ _ (0, 0) hh
  simp at c0 c1 c2
  have HH := Lib.hid hh
  clear hh
  have C := Lib.hid (fun w => spec_ReadVar_any s hs a w)
  obtain ⟨r, hr⟩ : ∃ r, rvOut s a = r := ⟨_, rfl⟩
  rw [hr] at C
  have HR := Lib.hid hr
  clear hr
  have hB0 : Below w.heap.size w w.drew := (Below.refl _ _).drew
  cases st with
  | none =>
    obtain rfl : b = true := by simpa using hb
    clear hb hst
    rcases r with _ | ⟨n, e⟩
    all_goals
      unfold rvVal at C
      go_enter Try.func80, Try.ntmps80
      go_wp2_with fail
      go_region_held3 (fun w' => w'.cell? ⟨g, 0, none⟩ = some (.string s) ∧ w'.cell? ⟨g, 1, none⟩ = some (.int .i64 a) ∧ w'.cell? ⟨g, 2, none⟩ = some (.bool true) ∧ w'.heap[g]? = some (.cells #[.string s, .int .i64 a, .bool true] 95 (0, 0)) ∧ Below w.heap.size w w')
        ((first
          | (exact ⟨c0, c1, c2, HH.out, hB0⟩)
          | assumption
          | (go_split_ands; exact ⟨held_step hbk (by assumption), held_step hbk (by assumption), held_step hbk (by assumption), blk_below' hbk (by assumption), below_step (by assumption) hbk⟩)))
        ((go_at_call 101; refine (C.out _).mono ?_; rintro e w' ⟨rfl, hbk⟩))
      clear hB0 c0 c1 c2
      go_split_ands
      have hbw : Below w.heap.size w w' := by assumption
      have hbl : w'.heap[g]? = some (.cells #[.string s, .int .i64 a, .bool true] 95 (0, 0)) := by assumption
      have HBL := Lib.hid hbl
      have f2 : w'.frozen? ⟨g, 2, none⟩ = false := frozen_of_row w' g 2 _ _ hbl
      clear hbl
      go_wp2
      go_ret
      exact ⟨rfl, ⟨a, true, heap_setCell_same _ g 2 _ _ _ HBL.out, ha, rfl, fun x hx => by cases hx⟩, only_setCell (only_below2 hbw) 2 _⟩
  | some x =>
    obtain rfl : b = false := by simpa using hb
    obtain rfl : a = x := hst x rfl
    clear hb hst
    rcases r with _ | ⟨n, e⟩
    · have hs1 : scNum s (some a) = none := HR.out
      rw [hs1]
      clear hs1
      unfold rvVal at C
      go_enter Try.func80, Try.ntmps80
      go_wp2_with fail
      go_region_held3 (fun w' => w'.cell? ⟨g, 0, none⟩ = some (.string s) ∧ w'.cell? ⟨g, 1, none⟩ = some (.int .i64 a) ∧ w'.cell? ⟨g, 2, none⟩ = some (.bool false) ∧ w'.heap[g]? = some (.cells #[.string s, .int .i64 a, .bool false] 95 (0, 0)) ∧ Below w.heap.size w w')
        ((first
          | (exact ⟨c0, c1, c2, HH.out, hB0⟩)
          | assumption
          | (go_split_ands; exact ⟨held_step hbk (by assumption), held_step hbk (by assumption), held_step hbk (by assumption), blk_below' hbk (by assumption), below_step (by assumption) hbk⟩)))
        ((go_at_call 101; refine (C.out _).mono ?_; rintro e w' ⟨rfl, hbk⟩))
      clear hB0 c0 c1 c2
      go_split_ands
      have hbw : Below w.heap.size w w' := by assumption
      have hbl : w'.heap[g]? = some (.cells #[.string s, .int .i64 a, .bool false] 95 (0, 0)) := by assumption
      have HBL := Lib.hid hbl
      have f2 : w'.frozen? ⟨g, 2, none⟩ = false := frozen_of_row w' g 2 _ _ hbl
      clear hbl
      go_wp2
      go_ret
      exact ⟨rfl, ⟨a, true, heap_setCell_same _ g 2 _ _ _ HBL.out, ha, rfl, fun x hx => by cases hx⟩, only_setCell (only_below2 hbw) 2 _⟩
    · have hs1 : scNum s (some a) = some (n, e) := HR.out
      rw [hs1]
      clear hs1
      unfold rvVal at C
      go_enter Try.func80, Try.ntmps80
      go_wp2_with fail
      go_region_held3 (fun w' => w'.cell? ⟨g, 0, none⟩ = some (.string s) ∧ w'.cell? ⟨g, 1, none⟩ = some (.int .i64 a) ∧ w'.cell? ⟨g, 2, none⟩ = some (.bool false) ∧ w'.heap[g]? = some (.cells #[.string s, .int .i64 a, .bool false] 95 (0, 0)) ∧ Below w.heap.size w w')
        ((first
          | (exact ⟨c0, c1, c2, HH.out, hB0⟩)
          | assumption
          | (go_split_ands; exact ⟨held_step hbk (by assumption), held_step hbk (by assumption), held_step hbk (by assumption), blk_below' hbk (by assumption), below_step (by assumption) hbk⟩)))
        ((go_at_call 101; refine (C.out _).mono ?_; rintro e w' ⟨rfl, hbk⟩))
      clear hB0 c0 c1 c2
      go_split_ands
      have hbw : Below w.heap.size w w' := by assumption
      have hbl : w'.heap[g]? = some (.cells #[.string s, .int .i64 a, .bool false] 95 (0, 0)) := by assumption
      have HBL := Lib.hid hbl
      have f1 : w'.frozen? ⟨g, 1, none⟩ = false := frozen_of_row w' g 1 _ _ hbl
      clear hbl
      go_wp2
      go_ret
      exact ⟨rfl, ⟨e, false, heap_setCell_same _ g 1 _ _ _ HBL.out, (rvOut_bd2 HR.out).2.1, rfl, fun x hx => by injection hx⟩, only_setCell (only_below2 hbw) 1 _⟩

set_option maxRecDepth 100000 in
set_option maxHeartbeats 1600000 in
theorem l03Byte_any (g : Nat) (s : ByteArray) (hs : s.size ≤ 4294967296) (st : Option Nat) (w : World) (h : ScAt 95 g s st w) :
    Calls Try.prog 81 #[.pointer (some ⟨g, 0, none⟩)] w (Scans 95 g s w .i64 (scByte s st)) := by
  obtain ⟨a, b, hh, ha, hb, hst⟩ := h
  have c0 := cell_of_row w g 0 _ _ (0, 0) hh
  have c1 := cell_of_row w g 1 _ _ (0, 0) hh
  have c2 := cell_of_row w g 2 _ _ (0, 0) hh
  simp at c0 c1 c2
  have f2 : w.frozen? ⟨g, 2, none⟩ = false := frozen_of_row w g 2 _ _ hh
  have f1 : w.frozen? ⟨g, 1, none⟩ = false := frozen_of_row w g 1 _ _ hh
  have HH := Lib.hid hh
  clear hh
  cases st with
  | none =>
    obtain rfl : b = true := by simpa using hb
    clear hb hst
    go_enter Try.func81, Try.ntmps81
    go_wp2_with fail
    go_quiet (fail)
    go_wp2
    go_ret
    exact ⟨rfl, ⟨a, true, heap_setCell_same _ g 2 _ _ _ HH.out, ha, rfl, fun x hx => by cases hx⟩, only_setCell (only_drewN (World.grownBy.refl w _) _) 2 _⟩
  | some x =>
    obtain rfl : b = false := by simpa using hb
    obtain rfl : a = x := hst x rfl
    clear hb hst
    by_cases hlt : a < s.size
    · have hs1 : scByte s (some a) = some (byteAt s a, a + 1) := by simp [scByte, hlt]
      rw [hs1]
      clear hs1
      obtain ⟨c, hc⟩ : ∃ c, s[a].toNat = c := ⟨_, rfl⟩
      have hbb : byteAt s a = c := by rw [byteAt_eq s _ hlt, hc]
      have hcl : c < 256 := by rw [← hbb]; exact byteAt_lt s a
      rw [hbb]
      clear hbb
      have d1 : decide ((s.size : Int) ≤ (a : Int)) = false := decide_eq_false (by omega)
      have d2 : decide (s.size ≤ a) = false := decide_eq_false (by omega)
      have i0 : (0 : Int) ≤ (a : Int) := by omega
      have i1 : (a : Int) < (s.size : Int) := by omega
      have i2 : IntKind.i64.wrap ((a : Int) + 1 - 1) = (a : Int) := by
        rw [show (a : Int) + 1 - 1 = a by omega]
        exact IntWalk.i64_in _ (by omega)
      have i3 : (a : Int) + 1 - 1 = (a : Int) := by omega
      have i4 : IntKind.i64.wrap (a : Int) = (a : Int) := IntWalk.i64_in _ (by omega)
      have i5 : IntKind.i64.wrap (c : Int) = (c : Int) := IntWalk.i64_in _ (by omega)
      go_enter Try.func81, Try.ntmps81
      go_wp2_with fail
      go_quiet (fail)
      go_wp2
      go_quiet (fail)
      go_wp2
      go_ret
      exact ⟨rfl, ⟨a + 1, false, heap_setCell_same _ g 1 _ _ _ HH.out, by omega, rfl, fun x hx => by injection hx⟩, only_drewN (only_setCell (only_drewN (World.grownBy.refl w _) _) 1 _) _⟩
    · have hs1 : scByte s (some a) = none := by simp [scByte, hlt]
      rw [hs1]
      clear hs1
      have d1 : decide ((s.size : Int) ≤ (a : Int)) = true := decide_eq_true (by omega)
      have d2 : decide (s.size ≤ a) = true := decide_eq_true (by omega)
      go_enter Try.func81, Try.ntmps81
      go_wp2_with fail
      go_quiet (fail)
      go_wp2
      go_ret
      exact ⟨rfl, ⟨a, true, heap_setCell_same _ g 2 _ _ _ HH.out, ha, rfl, fun x hx => by cases hx⟩, only_setCell (only_drewN (World.grownBy.refl w _) _) 2 _⟩
end Go.Proofs.Ytnhanakeijplcaa
