/- slices.Clone at edges; copyGraph. Conditions: the size of a length. -/
import Derived.Test.YtlnphcongijfiaaSAdd
import Derived.WalkSpells
import Derived.Lib.SliceRun
namespace Go.Proofs.Ytlnphcongijfiaa
open Go.RowKit
set_option maxRecDepth 100000 in

set_option maxHeartbeats 1600000 in
theorem Clone_any (A : Option Addr) (c : Nat) (es : List Ed) (w : World) (hx : RdE w A es) (hn : es.length ≤ 4294967296) :
    Calls Try.prog 136 #[.slice A es.length c] w (MadeE w es) := by
  obtain ⟨i0, hi, hz0, hz1, hz2⟩ := info_parts Try.infoEdge
  have qT : ∀ (w : World) (a : Option Addr) (n c n' c' : Nat), (binOp .eql 42 (.slice a n c) (.slice none n' c')).run Try.prog w = .ok (.bool a.isNone) w := fun w a n c n' c' => Lib.run_eql_slice_nil w _ _ a n c n' c' Try.underlying42
  rcases A with _ | ad
  · have hl : es = [] := by
      rcases Nat.eq_zero_or_pos es.length with h | h
      · exact List.eq_nil_of_length_eq_zero h
      · obtain ⟨ad, h2, _⟩ := hx.2 h
        cases h2
    subst hl
    clear hx
    go_enter Try.func136, Try.ntmps136
    go_wp2
    go_ret
    exact ⟨none, 0, rfl, World.ownsRow_nil _ _ _ _, Below.refl _ _⟩
  · have HX := Lib.hid (hx.alloc (.cells #[] 62))
    have hO : (w.alloc (.cells #[] 62)).ownsRow w.heap.size 62 3 (.slice (some ⟨w.heap.size, 0, none⟩) 0 0) 0 [] := World.ownsRow_made w #[] 0 (Nat.le_refl _) (by unfold maxLen; omega) rfl
    have HO := Lib.hid hO
    clear hx hO
    go_enter Try.func136, Try.ntmps136
    go_wp2_with (at_builtin
                 refine wpList_append_any _ rfl (.tmp 5) (.tmp 6) 42 rfl w.heap.size 62 i0 _ 3 24 Try.underlying42 hi hz0 hz1 hz2 rfl (by decide) _ 0 [] rfl HO.out (some ad) es.length c (edCells es) rfl HX.out (oneCell_ed es) (by unfold maxLen; omega) (by omega) (by simp) ?_
                 intro v1 w3 hown3 hg3 _
                 obtain ⟨A1, c1', rfl, _, _⟩ := own_slice hown3)
    rw [Nat.zero_add, List.nil_append] at hown3
    have hb3 : Below w.heap.size w w3 := ((Below.refl w.heap.size w).alloc (Nat.le_refl _) _).grown hg3 (by simp) (fun r hr => (HO.out.lt r hr).1)
    go_ret
    exact ⟨A1, c1', rfl, hown3, hb3⟩

set_option maxRecDepth 100000 in
set_option maxHeartbeats 3200000 in
theorem copyGraph_any (s : Int) (A : Option Addr) (c : Nat) (es : List Ed) (w : World) (hx : RdE w A es) (hn : es.length ≤ 4294967296) :
    Calls Try.prog 113 #[.agg #[.int .i64 s, .slice A es.length c]] w (MadeG w s es) := by
  have p1 := blk_below (below_alloc _ (.cells #[.int .i64 0, .slice none 0 0] 44)) (heap_alloc_new w (.cells #[.int .i64 s, .slice A es.length c] 44))
  have p2 : ((w.alloc (.cells #[.int .i64 s, .slice A es.length c] 44)).alloc (.cells #[.int .i64 0, .slice none 0 0] 44)).heap[w.heap.size + 1]? = some (.cells #[.int .i64 0, .slice none 0 0] 44 (0, 0)) := by
    have := heap_alloc_new (w.alloc (.cells #[.int .i64 s, .slice A es.length c] 44)) (.cells #[.int .i64 0, .slice none 0 0] 44)
    simpa using this
  have B2 : Below w.heap.size w ((w.alloc (.cells #[.int .i64 s, .slice A es.length c] 44)).alloc (.cells #[.int .i64 0, .slice none 0 0] 44)) := below_step (below_alloc _ _) (below_alloc _ _)
  have hs2 : ((w.alloc (.cells #[.int .i64 s, .slice A es.length c] 44)).alloc (.cells #[.int .i64 0, .slice none 0 0] 44)).heap.size = w.heap.size + 2 := by simp
  have hX := (hx.alloc (.cells #[.int .i64 s, .slice A es.length c] 44)).alloc (.cells #[.int .i64 0, .slice none 0 0] 44)
  clear hx
  go_enter Try.func113, Try.ntmps113
  go_wp2_with fail
  obtain ⟨W, hW⟩ : ∃ W, (w.alloc (.cells #[.int .i64 s, .slice A es.length c] 44)).alloc (.cells #[.int .i64 0, .slice none 0 0] 44) = W := ⟨_, rfl⟩
  rw [hW] at p1 p2 B2 hs2 hX ⊢
  clear hW
  have a0 : W.cell? ⟨w.heap.size, 0, none⟩ = some (.int .i64 s) := blk_cell (w := W) (o := 0) p1 rfl
  have a1 : W.cell? ⟨w.heap.size, 1, none⟩ = some (.slice A es.length c) := blk_cell (w := W) (o := 1) p1 rfl
  have hX3 : RdE W.drew A es := hX
  have P1 := Lib.hid p1
  have P2 := Lib.hid p2
  have BW := Lib.hid B2
  have HS := Lib.hid hs2
  have HX3 := Lib.hid hX3
  clear p1 p2 B2 hs2 hX hX3
  go_region_law (first
    | (go_simp
       go_at_call 136
       refine (Clone_any A c es W.drew HX3.out hn).mono ?_
       rintro e w3 ⟨A1, c1', rfl, hown3, hb3⟩
       have r3 : w3.heap[w.heap.size + 1]? = some (.cells #[.int .i64 0, .slice none 0 0] 44 (0, 0)) := blk_below hb3 P2.out
       have d0 := blk_cell (o := 0) r3 rfl
       have d1 := blk_cell (o := 1) r3 rfl
       have f0 : w3.frozen? ⟨w.heap.size + 1, 0, none⟩ = false := frozen_of_row w3 _ 0 _ _ r3
       have f1 : w3.frozen? ⟨w.heap.size + 1, 1, none⟩ = false := frozen_of_row w3 _ 1 _ _ r3
       have r1 : w3.heap[w.heap.size]? = some (.cells #[.int .i64 s, .slice A es.length c] 44 (0, 0)) := blk_below hb3 P1.out
       have a03 := blk_cell (o := 0) r1 rfl
       have HO3 := Lib.hid hown3
       have B3 : Hid (Below w.heap.size w w3) := Lib.hid (below_step BW.out.drew hb3)
       clear hown3 hb3 r1 r3))
  all_goals
    have hlw : w.heap.size + 2 ≤ W.heap.size := by have := HS.out; omega
    clear a0 a1
    try clear a03
    go_wp2
    refine bodyPost_ret (v := .agg #[.int .i64 s, .slice A1 es.length c1']) (by simp [results, Try.results113, go_sem, d0, d1]) rfl ⟨A1, c1', rfl, ?_, ?_⟩
    · exact own_mono (ownsRow_setCell_below (ownsRow_setCell_below HO3.out (a := ⟨w.heap.size + 1, 0, none⟩) (by simp; omega) (.int .i64 s)) (a := ⟨w.heap.size + 1, 1, none⟩) (by simp; omega) (.slice A1 es.length c1')) (show w.heap.size ≤ W.drew.heap.size by simp; omega)
    · exact (B3.out.setCell (p := ⟨w.heap.size + 1, 0, none⟩) (by simp) (.int .i64 s)).setCell (p := ⟨w.heap.size + 1, 1, none⟩) (by simp) (.slice A1 es.length c1')
end Go.Proofs.Ytlnphcongijfiaa
