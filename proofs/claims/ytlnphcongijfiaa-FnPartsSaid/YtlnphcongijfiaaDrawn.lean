/- What is drawn: a text, twelve places, two rows. No conditions but the length of the code. -/
import Derived.Test.YtlnphcongijfiaaDraw
import Derived.Test.YtlnphcongijfiaaIntS
namespace Go.Proofs.Ytlnphcongijfiaa
open Go.RowKit
/-- Twelve places. -/
def Places (w : World) (e : Ending) (w' : World) : Prop := ∃ (A : Option Addr) (c : Nat) (zs : List Int), e = .returned (.slice A 12 c) ∧ zs.length = 12 ∧ (∀ z ∈ zs, 0 ≤ z ∧ z < 10000) ∧ RdI w' A 12 zs ∧ Below w.heap.size w w'

set_option maxRecDepth 100000 in
set_option maxHeartbeats 1600000 in
theorem DrawPlaces_any (A : Option Addr) (n c : Nat) (zs : List Int) (w : World) (hc : Code0 w A n zs) :
    Calls Try.prog 30 #[.slice A n c] w (Places w) := by
  obtain ⟨i0, hi, hz0, hz1, hz2⟩ := info_parts Try.infoInt
  have C := Lib.hid (l01New_any A n c zs w hc)
  clear hc
  go_enter Try.func30, Try.ntmps30
  go_wp2_with fail
  refine C.out.mono ?_
  rintro e w1 ⟨rfl, hc1, hb1⟩
  clear C
  go_wp2_with fail
  refine (l01Byte_any w _ w1 hc1 hb1).mono ?_
  rintro e w2 h
  obtain ⟨x, rfl, _, hc2, hg2, hb2⟩ := h.step hb1
  clear h
  have hgl : w.heap.size < w2.heap.size := hc2.lt
  go_wp2
  go_loopw [4, 5] (fun v i wr => ∃ (k : Nat) (ys : List Int), k ≤ 12 ∧ ys.length ≤ k ∧ k ≤ ys.length ∧ Hid (∀ z ∈ ys, 0 ≤ z ∧ z < 10000) ∧ i = .int .i64 k ∧ wr.ownsRow w2.heap.size 3 1 v ys.length (ys.map (Value.int .i64)) ∧ CurAt w w.heap.size wr ∧ w2.grownBy wr (some w.heap.size) ∧ Below w.heap.size w wr) (fun _ i _ => 12 - (intOf i).toNat)
  case atStart => exact ⟨0, [], by omega, Nat.zero_le _, Nat.zero_le _, fun z hz => by simp at hz, rfl, World.ownsRow_made w2 #[] 0 (Nat.le_refl _) (by unfold maxLen; omega) rfl, hc2.below ((Below.refl w2.heap.size w2).alloc (Nat.le_refl _) _), only_alloc (World.grownBy.refl w2 _) _, hb2.alloc hb2.size _⟩
  case round =>
    obtain ⟨k, ys, hk, hy1, hy2, HY, rfl, hown, hcr, ho, hb⟩ := hrel
    by_cases hlt : k < 12
    · go_wp2_with fail
      refine (l01Below_any w _ wr 10000 (by omega) hcr hb).mono ?_
      rintro e w3 h
      obtain ⟨x, rfl, ⟨hx0, hx1⟩, hc3, hg3, hb3⟩ := h.step hb
      clear h
      have hx2 : x < 10000 := by omega
      have HX : Hid (0 ≤ x ∧ x < 10000) := ⟨hx0, hx2⟩
      have hown3 := own_only hown hg3 hgl
      have ho3 := only_trans ho hg3
      have hs3 := ho3.size
      clear hown hcr hb ho hg3 hx1
      go_wp2_with (first
        | (at_builtin
           refine wpList_append_own _ rfl (.tmp 15) (.tmp 18) 57 rfl w2.heap.size 3 i0 (.int .i64 0) 1 8 Try.underlying57 hi hz0 hz1 hz2 rfl (by decide) _ _ _ rfl (hown3.alloc _) ⟨w3.heap.size, 0, none⟩ 1 1 [.int .i64 x] rfl rfl (cell_one_new _ _ _) (by intro u hu; simp at hu; subst hu; rfl) (by unfold maxLen; omega) (by omega) (by simp; omega) ?_
           intro v1 w4 hown4 hg4 _))
      have ho4 := only_row (only_alloc ho3 (.cells #[.int .i64 x] 3)) hg4 (fun r hr => (hown3.lt r hr).1)
      have hc4 : CurAt w w.heap.size w4 := (hc3.below ((Below.refl w3.heap.size w3).alloc (Nat.le_refl _) (.cells #[.int .i64 x] 3))).grown hg4 (fun e => by have := (hown3.lt w.heap.size e.symm).1; omega)
      have hb4 : Below w.heap.size w w4 := (hb3.alloc hb3.size _).grown hg4 (by simp; have := hb3.size; omega) (fun r hr => by have := (hown3.lt r hr).1; omega)
      go_roundw
      case rel =>
        refine ⟨k + 1, ys ++ [x], by omega, by simp; omega, by simp; omega, ?_, by go_num, ?_, hc4, ho4, hb4⟩
        · intro z hz
          rcases List.mem_append.1 hz with h | h
          · exact HY.out z h
          · simp at h
            subst h
            exact HX.out
        · rw [List.map_append, List.length_append]
          exact hown4
      case measure => simp [intOf]; omega
    · obtain ⟨g, cap, rfl, _, _⟩ := hown.form (by omega)
      go_wp2
      go_ret
      have hl : ys.length = 12 := by omega
      rw [hl] at hown
      exact ⟨_, cap, ys, by rw [hl]; rfl, hl, HY.out, Rd.of_own hown, hb⟩
end Go.Proofs.Ytlnphcongijfiaa
