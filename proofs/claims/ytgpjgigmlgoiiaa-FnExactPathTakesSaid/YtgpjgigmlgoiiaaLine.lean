/- spec.l07Line: a word as a graph. Conditions: the length. -/
import Derived.Test.YtgpjgigmlgoiiaaWord
import Derived.Test.YtgpjgigmlgoiiaaGraph
import Derived.Test.YtgpjgigmlgoiiaaTouch
namespace Go.Proofs.Ytgpjgigmlgoiiaa
open Go.RowKit

theorem Rd.new3l (w : World) (a b d : Value) (e : TypeId) : Rd (w.alloc (.cells #[a, b, d] e)) 3 (some ⟨w.heap.size, 0, none⟩) 1 [a, b, d] := by
  refine ⟨rfl, fun _ => ⟨_, rfl, fun j u hu => ?_⟩⟩
  have hadd : (⟨w.heap.size, 0, none⟩ : Addr).add j = ⟨w.heap.size, j, none⟩ := by unfold Addr.add; split <;> simp_all
  rw [hadd, cell_of_row _ w.heap.size j #[a, b, d] e (0, 0) (heap_alloc_new w _)]
  simpa using hu
/-- The graph while it is made. -/
structure LnI (w : World) (sz : Int) (v : Value) (ks : List Ed) (wr : World) : Prop where
  out : wr.heap[w.heap.size + 1]? = some (.cells #[.int .i64 sz, v] 45 (0, 0))
  res : wr.heap[w.heap.size]? = some (.cells #[.int .i64 0, .slice none 0 0] 45 (0, 0))
  own : wr.ownsRow (w.heap.size + 2) 119 3 v ks.length (edCells ks)
  bel : Below w.heap.size w wr
theorem LnI.keep {w wr w' : World} {sz : Int} {v : Value} {ks : List Ed} (h : LnI w sz v ks wr) (hb : Below wr.heap.size wr w') : LnI w sz v ks w' := ⟨blk_below hb h.out, blk_below hb h.res, own_below h.own hb, below_step h.bel hb⟩
theorem edCells_snoc (ks : List Ed) (x : Ed) : edCells (ks ++ [x]) = edCells ks ++ [.int .i64 x.f, .int .u8 x.l, .int .i64 x.t] := by simp [edCells_append, edCells]
theorem LnI.put {w w2 w3 : World} {sz : Int} {v v1 : Value} {ks : List Ed} {x : Ed} {o : Obj} (h : LnI w sz v ks w2)
    (ho : w3.ownsRow (w.heap.size + 2) 119 3 v1 (ks.length + 1) (edCells ks ++ [.int .i64 x.f, .int .u8 x.l, .int .i64 x.t])) (hg : (w2.alloc o).grownBy w3 v.ownBlock) :
    LnI w sz v1 (ks ++ [x]) (w3.setCell ⟨w.heap.size + 1, 1, none⟩ v1) := by
  have k := h.keep (below_alloc w2 o)
  have hlt := h.own.lt
  have hout : w3.heap[w.heap.size + 1]? = some (.cells #[.int .i64 sz, v] 45 (0, 0)) := (hg.block _ (blk_lt k.out) (fun e => by have := (hlt _ e.symm).1; omega)).trans k.out
  refine ⟨?_, ?_, ?_, ?_⟩
  · simp [World.setCell, Array.getElem?_modify, hout]
  · exact blk_set_ne ((hg.block _ (blk_lt k.res) (fun e => by have := (hlt _ e.symm).1; omega)).trans k.res) (by omega)
  · rw [List.length_append, edCells_snoc]
    exact ownsRow_setCell_below ho (by simp) _
  · exact (k.bel.grown hg k.bel.size (fun g hgg => by have := (hlt g hgg).1; omega)).setCell (by simp) _

set_option maxRecDepth 100000 in
set_option maxHeartbeats 3200000 in
theorem l07Line_any (s : ByteArray) (w : World) (hs : s.size ≤ 12) :
    Calls Try.prog 71 #[.string s] w (MadeG w ((s.size : Int) + 1) (lineE s s.size)) := by
  obtain ⟨i0, hi, hz0, hz1, hz2⟩ := info_parts Try.infoEdge
  have B0 := Lib.hid (show LnI w ((s.size : Int) + 1) (.slice none 0 0) (lineE s 0) ((w.alloc (.cells #[.int .i64 0, .slice none 0 0] 45)).alloc (.cells #[.int .i64 ((s.size : Int) + 1), .slice none 0 0] 45)) from by
    have h1 := heap_alloc_new w (.cells #[.int .i64 0, .slice none 0 0] 45)
    have h2 := heap_alloc_new (w.alloc (.cells #[.int .i64 0, .slice none 0 0] 45)) (.cells #[.int .i64 ((s.size : Int) + 1), .slice none 0 0] 45)
    refine ⟨?_, blk_below (below_alloc _ _) h1, by simpa [lineE, edCells] using World.ownsRow_nil _ _ _ _, below_step (below_alloc _ _) (below_alloc _ _)⟩
    have e : (w.alloc (.cells #[.int .i64 0, .slice none 0 0] 45)).heap.size = w.heap.size + 1 := by simp
    rw [e] at h2
    exact h2)
  go_enter Try.func71, Try.ntmps71
  go_wp2_with fail
  go_loopw [4] (fun i wr => ∃ (k : Nat) (v : Value), k ≤ s.size ∧ i = .int .i64 k ∧ LnI w ((s.size : Int) + 1) v (lineE s k) wr) (fun i _ => s.size - (intOf i).toNat)
  case atStart => exact ⟨0, _, Nat.zero_le _, rfl, B0.out⟩
  case round =>
    clear B0
    obtain ⟨k, v, hk, rfl, hB⟩ := hrel
    obtain ⟨wo, rfl⟩ : ∃ wo : World, wo = wr := ⟨_, rfl⟩
    have HB := Lib.hid hB
    by_cases hlt : k < s.size
    · obtain ⟨x, hx⟩ : ∃ x, s[k].toNat = x := ⟨_, rfl⟩
      have HX := Lib.hid (show byN s k = x by rw [byN_eq s k hlt, hx])
      have hll := Nat.le_of_eq (lineE_len s k)
      obtain ⟨ks, hks⟩ : ∃ ks, lineE s k = ks := ⟨_, rfl⟩
      rw [hks] at HB hll
      have HKS := Lib.hid hks
      have wk1 : IntKind.i64.wrap ((k : Int) + 1) = (k : Int) + 1 := IntWalk.i64_in _ (by omega)
      have k0 : (0 : Int) ≤ (k : Int) := by omega
      have k1 : (k : Int) < (s.size : Int) := by omega
      have HB2' : Hid (LnI w ((s.size : Int) + 1) v ks wo.drew) := Lib.hid (HB.out.keep (Below.refl _ _).drew)
      have ho' : wo.drew.ownsRow (w.heap.size + 2) 119 3 v ks.length (edCells ks) := HB2'.out.own
      have f2' : wo.drew.frozen? ⟨w.heap.size + 1, 1, none⟩ = false := frozen_of_row _ _ 1 _ _ HB2'.out.out
      have d3' : wo.drew.cell? ⟨w.heap.size + 1, 1, none⟩ = some v := blk_cell (o := 1) HB2'.out.out rfl
      have d3 : wo.cell? ⟨w.heap.size + 1, 1, none⟩ = some v := blk_cell (o := 1) HB.out.out rfl
      have hz' : w.heap.size + 2 ≤ wo.drew.heap.size := blk_lt HB2'.out.out
      have hl2 : w.heap.size + 1 < wo.heap.size := blk_lt HB.out.out
      clear hB hks
      go_wp2_with fail
      go_region_law (first
        | (refine step_append_any _ rfl (.tmp 16) (.tmp 24) 43 rfl (w.heap.size + 2) 119 i0 _ 3 24 Try.underlying43 hi hz0 hz1 hz2 rfl (by decide) v ks.length (edCells ks) rfl (ho'.alloc _) (some ⟨wo.heap.size, 0, none⟩) 1 1 [.int .i64 k, .int .u8 x, .int .i64 ((k : Int) + 1)] rfl (Rd.new3l wo.drew _ _ _ _) (by intro u hu; simp at hu; rcases hu with rfl | rfl | rfl <;> rfl) (by unfold maxLen; omega) (by omega) (by simp; omega) ?_
           intro v1 w3 hown3 hg3 _
           obtain ⟨A1, c1', rfl, _, _⟩ := own_slice hown3
           have HB3 := Lib.hid (HB2'.out.put (x := ⟨k, x, (k : Int) + 1⟩) hown3 hg3)
           have hb : Below (w.heap.size + 2) wo.drew w3 := ((Below.refl (w.heap.size + 2) wo.drew).alloc hz' _).grown hg3 (by simp; omega) (fun r hr => (ho'.lt r hr).1)
           have g2 : w3.frozen? ⟨w.heap.size + 1, 1, none⟩ = false := by
             rw [hb.frozen (p := ⟨w.heap.size + 1, 1, none⟩) (by simp)]
             exact f2'
           have g3 : w3.cell? ⟨w.heap.size + 1, 1, none⟩ = some v := by
             rw [hb.cell (p := ⟨w.heap.size + 1, 1, none⟩) (by simp)]
             exact d3'
           clear hb))
      all_goals
        clear g2 g3 d3' f2' ho'
        go_wp2
        go_roundw
        case rel => exact ⟨k + 1, _, by omega, by go_num, by rw [lineE_succ, HKS.out, HX.out]; exact HB3.out⟩
        case measure => simp [intOf]; omega
    · obtain rfl : k = s.size := by omega
      obtain ⟨A1, c1', rfl, _, _⟩ := own_slice hB.own
      have d0 := blk_cell (o := 0) hB.out rfl
      have d1 := blk_cell (o := 1) hB.out rfl
      have e0 := blk_cell (o := 0) hB.res rfl
      have e1 := blk_cell (o := 1) hB.res rfl
      have f0 : wo.frozen? ⟨w.heap.size, 0, none⟩ = false := frozen_of_row _ _ 0 _ _ hB.res
      have f1 : wo.frozen? ⟨w.heap.size, 1, none⟩ = false := frozen_of_row _ _ 1 _ _ hB.res
      clear hB
      go_wp2
      refine bodyPost_ret (v := .agg #[.int .i64 ((s.size : Int) + 1), .slice A1 (lineE s s.size).length c1']) (by simp [results, Try.results71, go_sem, e0, e1]) rfl ⟨A1, c1', rfl, ?_, ?_⟩
      · exact own_mono (ownsRow_setCell_below (ownsRow_setCell_below HB.out.own (by simp) _) (by simp) _) (by omega)
      · exact (HB.out.bel.setCell (by simp) _).setCell (by simp) _
end Go.Proofs.Ytgpjgigmlgoiiaa
