/- laws.in, DrawTurned. No conditions but the length. -/
import Derived.Test.YtnhanakeijplcaaDrawA
import Derived.Test.YtnhanakeijplcaaDrawH
import Derived.Test.YtnhanakeijplcaaIntS
namespace Go.Proofs.Ytnhanakeijplcaa
open Go.RowKit
set_option maxRecDepth 100000 in

set_option maxHeartbeats 800000 in
theorem laws_in_any (A : Option Addr) (n c : Nat) (zs : List Int) (x : Int) (w : World) (hx : RdI w A n zs) (hn : n ≤ 4294967296) :
    Calls Try.prog 19 #[.slice A n c, .int .i64 x] w fun e w' => e = .returned (.bool (decide (x ∈ zs))) ∧ w = w' := by
  have hlen := hx.len
  subst hlen
  have HX := Lib.hid hx
  clear hx
  obtain ⟨r, hr⟩ : ∃ r, decide (x ∈ zs) = r := ⟨_, rfl⟩
  rw [hr]
  have HR := Lib.hid hr
  clear hr
  go_enter Try.func19, Try.ntmps19
  go_wp2
  go_loop [5] (fun i => ∃ (j : Nat), j ≤ zs.length ∧ i = .int .i64 j ∧ Hid (x ∉ zs.take j)) (fun i => zs.length - (intOf i).toNat)
  case atStart => exact ⟨0, Nat.zero_le _, rfl, Lib.hid (by simp)⟩
  case round =>
    obtain ⟨j, hj, rfl, HN⟩ := hrel
    by_cases hlt : j < zs.length
    · obtain ⟨ad, rfl, hc⟩ := HX.out.at_ hlt
      have he : zs.getD j 0 = zs[j] := by simp [List.getD, List.getElem?_eq_getElem hlt]
      rw [he] at hc
      obtain ⟨y, hy⟩ : ∃ y, zs[j] = y := ⟨_, rfl⟩
      rw [hy] at hc
      have HY := Lib.hid hy
      clear hy he
      by_cases hyx : y = x
      · have e1 : (y == x) = true := by simp [hyx]
        have hrt : r = true := by
          rw [← HR.out]
          simp only [decide_eq_true_eq]
          rw [← hyx, ← HY.out]
          exact List.getElem_mem hlt
        clear hyx
        subst hrt
        go_wp2
        go_ret
        exact ⟨rfl, rfl⟩
      · have e1 : (y == x) = false := by simp [hyx]
        have HN2 : Hid (x ∉ zs.take (j + 1)) := by
          refine Lib.hid ?_
          rw [List.take_succ_eq_append_getElem hlt, List.mem_append, HY.out]
          simp
          exact ⟨HN.out, fun h => hyx h.symm⟩
        clear hyx
        go_wp2
        go_round
        case rel => exact ⟨j + 1, by omega, by go_num, HN2⟩
        case measure => simp [intOf]; omega
    · obtain rfl : j = zs.length := by omega
      have hrt : r = false := by
        rw [← HR.out]
        simp only [decide_eq_false_iff_not]
        have := HN.out
        rwa [List.take_of_length_le (Nat.le_refl _)] at this
      subst hrt
      go_wp2
      go_ret
      exact ⟨rfl, rfl⟩

/-- A drawn graph, right or not, of not more than 11 edges. -/
def DrawnTu (w : World) (e : Ending) (w' : World) : Prop :=
  ∃ (s : Int) (A : Option Addr) (c : Nat) (es : List Ed), e = .returned (.agg #[.int .i64 s, .slice A es.length c]) ∧ es.length ≤ 11 ∧ (∀ e ∈ es, 0 ≤ e.l ∧ e.l ≤ 255) ∧ w'.ownsRow w.heap.size 31 3 (.slice A es.length c) es.length (edCells es) ∧ Below w.heap.size w w'

set_option maxRecDepth 100000 in
set_option maxHeartbeats 1600000 in
theorem DrawTurned_any (A : Option Addr) (n c : Nat) (zs : List Int) (w : World) (hc : Code0 w A n zs) :
    Calls Try.prog 30 #[.slice A n c] w (DrawnTu w) := by
  have k0 := below_alloc w (.cells #[.int .i64 0, .slice none 0 0] 26)
  have q0 := heap_alloc_new w (.cells #[.int .i64 0, .slice none 0 0] 26)
  have C := Lib.hid (l01New_any A n c zs _ (hc.keep k0))
  have Q0 := Lib.hid q0
  have K0 := Lib.hid k0
  clear hc q0 k0
  go_enter Try.func30, Try.ntmps30
  go_wp2_with fail
  refine C.out.mono ?_
  rintro e w1 ⟨rfl, hc1, hb1⟩
  have Q1 := Lib.hid (blk_below hb1 Q0.out)
  have hw1 := hb1.size
  clear C
  go_wp2_with fail
  refine (l04Any_any _ _ w1 (by simpa using hc1) hb1).mono ?_
  rintro e w2 ⟨s, A2, c2, es, rfl, h1, h10, hc2, own2, hg2⟩
  have q2 := (hg2.block _ (blk_lt Q1.out) (fun e => by injection e with e; simp at e)).trans Q1.out
  have d0 := blk_cell (o := 0) q2 rfl
  have d1 := blk_cell (o := 1) q2 rfl
  have f0 : w2.frozen? ⟨w.heap.size, 0, none⟩ = false := frozen_of_row w2 _ 0 _ _ q2
  have f1 : w2.frozen? ⟨w.heap.size, 1, none⟩ = false := frozen_of_row w2 _ 1 _ _ q2
  have hwl := blk_lt Q1.out
  have HOK := Lib.hid h10
  have B2 : Hid (Below w.heap.size w w2) := below_step K0.out (below_only hb1 hg2 (by simp))
  clear hc1 hc2 hb1 h10 hg2 q2
  go_wp2
  refine bodyPost_ret (v := .agg #[.int .i64 s, .slice A2 es.length c2]) (by simp [results, Try.results30, go_sem, d0, d1]) rfl ⟨s, A2, c2, es, rfl, h1, HOK.out, ?_, ?_⟩
  · exact own_mono (ownsRow_setCell_below (ownsRow_setCell_below own2 (a := ⟨w.heap.size, 0, none⟩) (by simp; omega) _) (a := ⟨w.heap.size, 1, none⟩) (by simp; omega) _) (by omega)
  · exact (B2.out.setCell (Nat.le_refl _) _).setCell (Nat.le_refl _) _
end Go.Proofs.Ytnhanakeijplcaa
