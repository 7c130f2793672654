/- Owned: both functions return the same list. No conditions but the labels' range and the size of a length. -/
import Derived.Test.YtnhanakeijplcaaSGraphOk
import Derived.Test.YtnhanakeijplcaaOwner
import Derived.Test.YtnhanakeijplcaaApp
import Derived.Test.YtnhanakeijplcaaIntS
namespace Go.Proofs.Ytnhanakeijplcaa
open Go.RowKit

/-- The vertices below k that a worker owns. -/
def ownedTo (wk n : Int) : Nat → List Int
  | 0 => []
  | k + 1 => ownedTo wk n k ++ (if owner k n = wk then [(k : Int)] else [])
noncomputable def ownedL (s : Int) (es : List Ed) (wk n : Int) : List Int := if PP (GOk s es) then ownedTo wk n s.toNat else []
theorem ownedTo_len (wk n : Int) : ∀ k, (ownedTo wk n k).length ≤ k
  | 0 => Nat.le_refl _
  | k + 1 => by
    have := ownedTo_len wk n k
    unfold ownedTo
    split <;> simp <;> omega
set_option maxRecDepth 100000 in
set_option maxHeartbeats 3200000 in
theorem impl_Owned_any (s : Int) (A : Option Addr) (c : Nat) (es : List Ed) (wk n : Int) (w : World) (hx : RdE w A es) (hn : es.length ≤ 4294967296) (hl : ∀ e ∈ es, 0 ≤ e.l ∧ e.l ≤ 255) :
    Calls Try.prog 48 #[.agg #[.int .i64 s, .slice A es.length c], .int .i64 wk, .int .i64 n] w (MadeI w (ownedL s es wk n)) := by
  obtain ⟨i0, hi, hz0, hz1, hz2⟩ := info_parts Try.infoInt
  have G := Lib.hid (fun w hx => impl_GraphOk_any s A c es w hx hn hl)
  have HX := Lib.hid hx
  clear hx hl
  have hB0 : Below w.heap.size w (w.alloc (.cells #[.int .i64 s, .slice A es.length c] 26)) := (Below.refl _ _).alloc (Nat.le_refl _) _
  obtain ⟨r, hr⟩ : ∃ r, PP (GOk s es) = r := ⟨_, rfl⟩
  rw [hr] at G
  have HR := Lib.hid hr
  obtain ⟨L, hL⟩ : ∃ L, ownedL s es wk n = L := ⟨_, rfl⟩
  rw [hL]
  unfold ownedL at hL
  rw [hr] at hL
  have LL := Lib.hid hL
  clear hr hL
  go_enter Try.func48, Try.ntmps48
  go_wp2_with fail
  refine (G.out _ (HX.out.below hB0)).mono ?_
  rintro e w1 ⟨rfl, k1⟩
  have hB1 := below_step hB0 k1
  have b0 : w1.cell? ⟨w.heap.size, 0, none⟩ = some (.int .i64 s) := held_step k1 (by go_keep)
  clear k1 hB0 G
  cases r
  · go_wp2
    go_ret
    have hL := LL.out
    simp at hL
    subst hL
    exact ⟨none, 0, rfl, World.ownsRow_nil _ _ _ _, hB1⟩
  · have hs : ∃ S : Nat, s = (S : Int) ∧ S ≤ 12 := by
      have h1 : GOk s es := by
        have := HR.out
        unfold PP at this
        exact @of_decide_eq_true _ (Classical.propDecidable _) this
      exact ⟨s.toNat, by have := h1.1; omega, by have := h1.1; omega⟩
    obtain ⟨S, rfl, hS⟩ := hs
    clear HR
    go_wp2
    go_loopw [7, 14] (fun v i wr => ∃ (k : Nat) (zs : List Int), k ≤ S ∧ i = .int .i64 k ∧ Hid (zs = ownedTo wk n k) ∧ zs.length ≤ k ∧ wr.ownsRow w.heap.size 3 1 v zs.length (zs.map (Value.int .i64)) ∧ Below w.heap.size w wr) (fun _ i _ => S - (intOf i).toNat)
    case atStart => exact ⟨0, [], Nat.zero_le _, rfl, rfl, Nat.le_refl _, World.ownsRow_nil _ _ _ _, hB1⟩
    case round =>
      obtain ⟨k, zs, hk, rfl, HZ, hz, hown, hb⟩ := hrel
      by_cases hlt : k < S
      · have C := Lib.hid (fun w => impl_OwnerOf_any k n w)
        have k1 : (k : Int) < (S : Int) := by omega
        obtain ⟨q, hq⟩ : ∃ q, owner k n = q := ⟨_, rfl⟩
        rw [hq] at C
        have HQ := Lib.hid hq
        clear hq
        go_wp2_with fail
        refine (C.out _).mono ?_
        rintro e w2 ⟨rfl, k2⟩
        have hown2 := own_below hown k2
        have hb2 := below_step hb k2
        clear hown hb k2 C
        by_cases hqw : q = wk
        · subst hqw
          have hbs := hb2.size
          go_wp2_with (first
            | (at_builtin
               refine wpList_append_own _ rfl (.tmp 22) (.tmp 24) 28 rfl w.heap.size 3 i0 (.int .i64 0) 1 8 Try.underlying28 hi hz0 hz1 hz2 rfl (by decide) _ _ _ rfl (hown2.alloc _) ⟨w2.heap.size, 0, none⟩ 1 1 [.int .i64 k] rfl rfl (cell_one_new _ _ _) (by intro u hu; simp at hu; subst hu; rfl) (by unfold maxLen; omega) (by omega) (by simp; omega) ?_
               intro v1 w3 hown3 hg3 _))
          have hb3 : Below w.heap.size w w3 := (hb2.alloc hb2.size _).grown hg3 (by simp; omega) (fun r hr => by have := (hown2.lt r hr).1; omega)
          go_roundw
          case rel =>
            refine ⟨k + 1, zs ++ [(k : Int)], by omega, by go_num, ?_, by simp; omega, ?_, hb3⟩
            · show _ = _
              rw [ownedTo, HQ.out, if_pos rfl, HZ.out]
            · rw [List.map_append, List.length_append]
              exact hown3
          case measure => simp [intOf]; omega
        · go_wp2
          go_roundw
          case rel =>
            refine ⟨k + 1, zs, by omega, by go_num, ?_, by omega, hown2, hb2⟩
            show _ = _
            rw [ownedTo, HQ.out, if_neg hqw, HZ.out, List.append_nil]
          case measure => simp [intOf]; omega
      · obtain rfl : k = S := by omega
        obtain ⟨A1, c1, rfl, _, _⟩ := own_slice hown
        go_wp2
        go_ret
        have hL := LL.out
        simp at hL
        have := HZ.out
        subst this
        subst hL
        exact ⟨A1, c1, rfl, hown, hb⟩
set_option maxRecDepth 100000 in
set_option maxHeartbeats 3200000 in
theorem spec_Owned_any (s : Int) (A : Option Addr) (c : Nat) (es : List Ed) (wk n : Int) (w : World) (hx : RdE w A es) (hn : es.length ≤ 4294967296) (hl : ∀ e ∈ es, 0 ≤ e.l ∧ e.l ≤ 255) :
    Calls Try.prog 47 #[.agg #[.int .i64 s, .slice A es.length c], .int .i64 wk, .int .i64 n] w (MadeI w (ownedL s es wk n)) := by
  obtain ⟨i0, hi, hz0, hz1, hz2⟩ := info_parts Try.infoInt
  have G := Lib.hid (fun w hx => spec_GraphOk_any s A c es w hx hn hl)
  have HX := Lib.hid hx
  clear hx hl
  have b00 : (w.alloc (.cells #[.int .i64 s, .slice A es.length c] 26)).cell? ⟨w.heap.size, 0, none⟩ = some (.int .i64 s) := by go_keep
  have hA : Below w.heap.size w (w.alloc (.cells #[.int .i64 s, .slice A es.length c] 26)) := (Below.refl _ _).alloc (Nat.le_refl _) _
  obtain ⟨W0, hW0⟩ : ∃ W0, w.alloc (.cells #[.int .i64 s, .slice A es.length c] 26) = W0 := ⟨_, rfl⟩
  have hW1 : w.heap.size + 1 = W0.heap.size := by rw [← hW0]; simp
  rw [hW0] at b00 hA
  have k0 : Below W0.heap.size W0 (W0.alloc (.cells #[] 3)) := (Below.refl _ _).alloc (Nat.le_refl _) _
  have hown0 : (W0.alloc (.cells #[] 3)).ownsRow W0.heap.size 3 1 (.slice (some ⟨W0.heap.size, 0, none⟩) 0 0) 0 [] := World.ownsRow_made W0 #[] 0 (Nat.le_refl _) (by unfold maxLen; omega) rfl
  have hB0 := below_step hA k0
  obtain ⟨r, hr⟩ : ∃ r, PP (GOk s es) = r := ⟨_, rfl⟩
  rw [hr] at G
  have HR := Lib.hid hr
  obtain ⟨L, hL⟩ : ∃ L, ownedL s es wk n = L := ⟨_, rfl⟩
  rw [hL]
  unfold ownedL at hL
  rw [hr] at hL
  have LL := Lib.hid hL
  clear hr hL
  have HW0 := Lib.hid hW0
  have HW1 := Lib.hid hW1
  clear hW0 hW1
  go_enter Try.func47, Try.ntmps47
  go_wp2_with fail
  rw [HW0.out, HW1.out]
  refine (G.out _ (HX.out.below hB0)).mono ?_
  rintro e w1 ⟨rfl, k1⟩
  have k01 := below_step k0 k1
  have hown1 := own_below hown0 k1
  clear k1 hB0 G k0 hown0
  cases r
  · go_wp2
    go_ret
    have hL := LL.out
    simp at hL
    subst hL
    exact ⟨_, 0, rfl, own_mono hown1 hA.size, below_step hA k01⟩
  · have hs : ∃ S : Nat, s = (S : Int) ∧ S ≤ 12 := by
      have h1 : GOk s es := by
        have := HR.out
        unfold PP at this
        exact @of_decide_eq_true _ (Classical.propDecidable _) this
      exact ⟨s.toNat, by have := h1.1; omega, by have := h1.1; omega⟩
    obtain ⟨S, rfl, hS⟩ := hs
    clear HR
    go_wp2
    go_loopw [7, 8] (fun v i wr => ∃ (k : Nat) (zs : List Int), k ≤ S ∧ i = .int .i64 k ∧ Hid (zs = ownedTo wk n k) ∧ zs.length ≤ k ∧ wr.ownsRow W0.heap.size 3 1 v zs.length (zs.map (Value.int .i64)) ∧ wr.cell? ⟨w.heap.size, 0, none⟩ = some (.int .i64 S) ∧ Below W0.heap.size W0 wr) (fun _ i _ => S - (intOf i).toNat)
    case atStart => exact ⟨0, [], Nat.zero_le _, rfl, rfl, Nat.le_refl _, hown1, held_step k01 b00, k01⟩
    case round =>
      obtain ⟨k, zs, hk, rfl, HZ, hz, hown, hc0, hb⟩ := hrel
      by_cases hlt : k < S
      · have C := Lib.hid (fun w => spec_OwnerOf_any k n w)
        have k1 : (k : Int) < (S : Int) := by omega
        obtain ⟨q, hq⟩ : ∃ q, owner k n = q := ⟨_, rfl⟩
        rw [hq] at C
        have HQ := Lib.hid hq
        clear hq
        go_wp2_with fail
        refine (C.out _).mono ?_
        rintro e w2 ⟨rfl, k2⟩
        have hown2 := own_below hown k2
        have hb2 := below_step hb k2
        have hc2 := held_step hb2 b00
        clear hown hb k2 C hc0
        by_cases hqw : q = wk
        · subst hqw
          have hbs := hb2.size
          go_wp2_with (first
            | (at_builtin
               refine wpList_append_own _ rfl (.tmp 25) (.tmp 27) 28 rfl W0.heap.size 3 i0 (.int .i64 0) 1 8 Try.underlying28 hi hz0 hz1 hz2 rfl (by decide) _ _ _ rfl (hown2.alloc _) ⟨w2.heap.size, 0, none⟩ 1 1 [.int .i64 k] rfl rfl (cell_one_new _ _ _) (by intro u hu; simp at hu; subst hu; rfl) (by unfold maxLen; omega) (by omega) (by simp; omega) ?_
               intro v1 w3 hown3 hg3 _))
          have hb3 : Below W0.heap.size W0 w3 := (hb2.alloc hb2.size _).grown hg3 (by simp; omega) (fun r hr => by have := (hown2.lt r hr).1; omega)
          have hc3 := held_step hb3 b00
          go_roundw
          case rel =>
            refine ⟨k + 1, zs ++ [(k : Int)], by omega, by go_num, ?_, by simp; omega, ?_, hc3, hb3⟩
            · show _ = _
              rw [ownedTo, HQ.out, if_pos rfl, HZ.out]
            · rw [List.map_append, List.length_append]
              exact hown3
          case measure => simp [intOf]; omega
        · go_wp2
          go_roundw
          case rel =>
            refine ⟨k + 1, zs, by omega, by go_num, ?_, by omega, hown2, hc2, hb2⟩
            show _ = _
            rw [ownedTo, HQ.out, if_neg hqw, HZ.out, List.append_nil]
          case measure => simp [intOf]; omega
      · obtain rfl : k = S := by omega
        obtain ⟨A1, c1, rfl, _, _⟩ := own_slice hown
        go_wp2
        go_ret
        have hL := LL.out
        simp at hL
        have := HZ.out
        subst this
        subst hL
        exact ⟨A1, c1, rfl, own_mono hown hA.size, below_step hA hb⟩
end Go.Proofs.Ytnhanakeijplcaa
