/- l07Put: the reference's insertion of an arc. Conditions: the size of a length. -/
import Derived.Test.YtjlekcoikceidaaMOrd
import Derived.Test.YtjlekcoikceidaaSNfaOk
namespace Go.Proofs.Ytjlekcoikceidaa
open Go.RowKit

/-- What the loops of l07Put keep. -/
structure PutA (w : World) (x : Ed) (v : Value) (ks : List Ed) (wr : World) : Prop where
  box : wr.heap[w.heap.size]? = some (.cells #[.int .i64 x.f, .int .u8 x.l, .int .i64 x.t] 64 (0, 0))
  own : wr.ownsRow (w.heap.size + 1) 64 3 v ks.length (edCells ks)
  bel : Below w.heap.size w wr
section
variable {w wr wr' w3 : World} {x y : Ed} {v v1 : Value} {ks : List Ed} {o : Obj}
theorem PutA.keep (h : PutA w x v ks wr) (hb : Below wr.heap.size wr wr') : PutA w x v ks wr' := ⟨blk_below hb h.box, own_below h.own hb, below_step h.bel hb⟩
theorem PutA.app (h : PutA w x v ks wr) (ho : w3.ownsRow (w.heap.size + 1) 64 3 v1 (ks.length + 1) (edCells ks ++ [.int .i64 y.f, .int .u8 y.l, .int .i64 y.t])) (hg : (wr.alloc o).grownBy w3 v.ownBlock) : PutA w x v1 (ks ++ [y]) w3 where
  box := (hg.block _ (Nat.lt_of_lt_of_le (blk_lt h.box) (by simp)) (fun e => by have := (h.own.lt _ e.symm).1; omega)).trans (blk_below (below_alloc wr o) h.box)
  own := by simpa [edCells_append, edCells] using ho
  bel := (h.bel.alloc h.bel.size o).grown hg (by have := h.bel.size; simp; omega) (fun k hk => by have := (h.own.lt k hk).1; omega)
end
set_option maxRecDepth 100000 in
set_option maxHeartbeats 6400000 in
theorem l07Put_any (A : Option Addr) (c : Nat) (es : List Ed) (x : Ed) (w : World) (hx : RdE w A es) (hn : es.length ≤ 4294967296) :
    Calls Try.prog 36 #[.slice A es.length c, .agg #[.int .i64 x.f, .int .u8 x.l, .int .i64 x.t]] w (MadeA w (putE es x)) := by
  obtain ⟨i0, hi, hz0, hz1, hz2⟩ := info_parts Try.infoArc
  have HX := Lib.hid hx
  clear hx
  obtain ⟨L, hL⟩ : ∃ L, putE es x = L := ⟨_, rfl⟩
  rw [hL]
  have HL := Lib.hid hL
  clear hL
  obtain ⟨xf, xl, xt⟩ := x
  simp only
  have p0 := heap_alloc_new w (.cells #[.int .i64 xf, .int .u8 xl, .int .i64 xt] 64)
  have I0 : PutA w ⟨xf, xl, xt⟩ (.slice (some ⟨w.heap.size + 1, 0, none⟩) 0 0) [] ((w.alloc (.cells #[.int .i64 xf, .int .u8 xl, .int .i64 xt] 64)).alloc (.cells #[] 64)) := by
    refine ⟨blk_below (below_alloc _ _) p0, ?_, below_step (below_alloc _ _) (below_alloc _ _)⟩
    have := World.ownsRow_made (w.alloc (.cells #[.int .i64 xf, .int .u8 xl, .int .i64 xt] 64)) (base := w.heap.size + 1) (e := 64) (size := 3) #[] 0 (by simp) (by unfold maxLen; omega) rfl
    simpa [edCells] using this
  have HI := Lib.hid I0
  clear I0 p0
  go_enter Try.func36, Try.ntmps36
  go_wp2
  go_loopw [5, 6] (fun v i wr => ∃ (k : Nat) (ks : List Ed), k ≤ es.length ∧ i = .int .i64 k ∧ Hid (ks = (es.take k).filter (fun y => edLess y ⟨xf, xl, xt⟩)) ∧ ks.length ≤ k ∧ PutA w ⟨xf, xl, xt⟩ v ks wr) (fun _ i _ => es.length - (intOf i).toNat)
  case atStart => exact ⟨0, [], Nat.zero_le _, rfl, by show _ = _; simp, Nat.le_refl _, HI.out⟩
  case round =>
    obtain ⟨k, ks, hk, rfl, HK, hkl, hP⟩ := hrel
    clear HI
    by_cases hlt : k < es.length
    · obtain ⟨b, o, rfl, c0, c1, c2⟩ := (RdE.below HX.out hP.bel).at_ hlt
      obtain ⟨y, hyy⟩ : ∃ y, es[k] = y := ⟨_, rfl⟩
      rw [hyy] at c0 c1 c2
      have EY := Lib.hid hyy
      clear hyy
      obtain ⟨yf, yl, yt⟩ := y
      simp only at c0 c1 c2
      have T := Lib.hid (fun w => spec_l07Less_any ⟨yf, yl, yt⟩ ⟨xf, xl, xt⟩ w)
      unfold Ed.val at T
      obtain ⟨r, hr⟩ : ∃ r, edLess ⟨yf, yl, yt⟩ ⟨xf, xl, xt⟩ = r := ⟨_, rfl⟩
      rw [hr] at T
      have HR := Lib.hid hr
      clear hr
      have k0 : (0 : Int) ≤ (k : Int) := by omega
      have k1 : (k : Int) < (es.length : Int) := by omega
      have x0 := blk_cell (o := 0) hP.box rfl
      have x1 := blk_cell (o := 1) hP.box rfl
      have x2 := blk_cell (o := 2) hP.box rfl
      have hB := (Below.refl wr.heap.size wr).drew
      go_wp2_with fail
      go_region_held3 (fun w' => w'.cell? ⟨b, o + k * 3, none⟩ = some (.int .i64 yf) ∧ w'.cell? ⟨b, o + k * 3 + 1, none⟩ = some (.int .u8 yl) ∧ w'.cell? ⟨b, o + k * 3 + 2, none⟩ = some (.int .i64 yt) ∧
          w'.cell? ⟨w.heap.size, 0, none⟩ = some (.int .i64 xf) ∧ w'.cell? ⟨w.heap.size, 1, none⟩ = some (.int .u8 xl) ∧ w'.cell? ⟨w.heap.size, 2, none⟩ = some (.int .i64 xt) ∧ Below wr.heap.size wr w')
        ((first
          | (exact ⟨c0, c1, c2, x0, x1, x2, hB⟩)
          | assumption
          | (go_split_ands; exact ⟨held_step hbk (by assumption), held_step hbk (by assumption), held_step hbk (by assumption), held_step hbk (by assumption), held_step hbk (by assumption), held_step hbk (by assumption), below_step (by assumption) hbk⟩)))
        ((go_at_call 37; refine (T.out _).mono ?_; rintro e w' ⟨rfl, hbk⟩))
      clear hB x0 x1 x2 c0 c1 c2
      go_split_ands
      have hbw : Below wr.heap.size wr w' := by assumption
      have hP2 := hP.keep hbw
      clear hP
      cases r
      · go_wp2
        go_roundw
        case rel =>
          refine ⟨k + 1, ks, by omega, by go_num, ?_, by omega, hP2⟩
          show _ = _
          rw [filt_next _ hlt, EY.out, HR.out, HK.out]
          simp
        case measure => simp [intOf]; omega
      · have hlw := blk_lt hP2.box
        go_wp2_with (first
          | (at_builtin
             refine wpList_append_any _ rfl (.tmp 21) (.tmp 26) 26 rfl (w.heap.size + 1) 64 i0 _ 3 24 Try.underlying26 hi hz0 hz1 hz2 rfl (by decide) _ ks.length (edCells ks) rfl (hP2.own.alloc _) (some ⟨w'.heap.size, 0, none⟩) 1 1 [.int .i64 yf, .int .u8 yl, .int .i64 yt] rfl (Rd.new3 w' _ _ _ _) (by intro u hu; simp at hu; rcases hu with rfl | rfl | rfl <;> rfl) (by unfold maxLen; omega) (by omega) (by simp; omega) ?_
             intro v1 w3 hown3 hg3 _
             have hP3 := Lib.hid (hP2.app (y := ⟨yf, yl, yt⟩) hown3 hg3)))
        go_roundw
        case rel =>
          refine ⟨k + 1, ks ++ [⟨yf, yl, yt⟩], by omega, by go_num, ?_, by simp; omega, by simpa using hP3.out⟩
          show _ = _
          rw [filt_next _ hlt, EY.out, HR.out, HK.out]
          simp
        case measure => simp [intOf]; omega
    · obtain rfl : k = es.length := by omega
      have hK := HK.out
      rw [List.take_of_length_le (Nat.le_refl _)] at hK
      have HK2 := Lib.hid hK
      have x0 := blk_cell (o := 0) hP.box rfl
      have x1 := blk_cell (o := 1) hP.box rfl
      have x2 := blk_cell (o := 2) hP.box rfl
      have hlw := blk_lt hP.box
      clear HK hK hlt
      go_wp2_with (first
        | (at_builtin
           refine wpList_append_any _ rfl (.tmp 28) (.tmp 30) 26 rfl (w.heap.size + 1) 64 i0 _ 3 24 Try.underlying26 hi hz0 hz1 hz2 rfl (by decide) _ ks.length (edCells ks) rfl (hP.own.alloc _) (some ⟨wr.heap.size, 0, none⟩) 1 1 [.int .i64 xf, .int .u8 xl, .int .i64 xt] rfl (Rd.new3 wr _ _ _ _) (by intro u hu; simp at hu; rcases hu with rfl | rfl | rfl <;> rfl) (by unfold maxLen; omega) (by omega) (by simp; omega) ?_
           intro v1 w3 hown3 hg3 _
           have hP3 := Lib.hid (hP.app (y := ⟨xf, xl, xt⟩) hown3 hg3)))
      clear hP x0 x1 x2 hlw
      go_loopw [5, 7] (fun v i wr => ∃ (k : Nat) (ls : List Ed), k ≤ es.length ∧ i = .int .i64 k ∧ Hid (ls = (ks ++ [⟨xf, xl, xt⟩]) ++ (es.take k).filter (fun y => edLess ⟨xf, xl, xt⟩ y)) ∧ ls.length ≤ es.length + 1 + k ∧ PutA w ⟨xf, xl, xt⟩ v ls wr) (fun _ i _ => es.length - (intOf i).toNat)
      case atStart => exact ⟨0, _, Nat.zero_le _, rfl, by show _ = _; simp; rfl, by simp; omega, by simpa using hP3.out⟩
      case round =>
        clear hP3
        obtain ⟨k, ls, hk, rfl, HK, hkl, hP⟩ := hrel
        by_cases hlt : k < es.length
        · obtain ⟨b, o, rfl, c0, c1, c2⟩ := (RdE.below HX.out hP.bel).at_ hlt
          obtain ⟨y, hyy⟩ : ∃ y, es[k] = y := ⟨_, rfl⟩
          rw [hyy] at c0 c1 c2
          have EY := Lib.hid hyy
          clear hyy
          obtain ⟨yf, yl, yt⟩ := y
          simp only at c0 c1 c2
          have T := Lib.hid (fun w => spec_l07Less_any ⟨xf, xl, xt⟩ ⟨yf, yl, yt⟩ w)
          unfold Ed.val at T
          obtain ⟨r, hr⟩ : ∃ r, edLess ⟨xf, xl, xt⟩ ⟨yf, yl, yt⟩ = r := ⟨_, rfl⟩
          rw [hr] at T
          have HR := Lib.hid hr
          clear hr
          have k0 : (0 : Int) ≤ (k : Int) := by omega
          have k1 : (k : Int) < (es.length : Int) := by omega
          have x0 := blk_cell (o := 0) hP.box rfl
          have x1 := blk_cell (o := 1) hP.box rfl
          have x2 := blk_cell (o := 2) hP.box rfl
          have hB := (Below.refl wr.heap.size wr).drew
          go_wp2_with fail
          go_region_held3 (fun w' => w'.cell? ⟨b, o + k * 3, none⟩ = some (.int .i64 yf) ∧ w'.cell? ⟨b, o + k * 3 + 1, none⟩ = some (.int .u8 yl) ∧ w'.cell? ⟨b, o + k * 3 + 2, none⟩ = some (.int .i64 yt) ∧
              w'.cell? ⟨w.heap.size, 0, none⟩ = some (.int .i64 xf) ∧ w'.cell? ⟨w.heap.size, 1, none⟩ = some (.int .u8 xl) ∧ w'.cell? ⟨w.heap.size, 2, none⟩ = some (.int .i64 xt) ∧ Below wr.heap.size wr w')
            ((first
              | (exact ⟨c0, c1, c2, x0, x1, x2, hB⟩)
              | assumption
              | (go_split_ands; exact ⟨held_step hbk (by assumption), held_step hbk (by assumption), held_step hbk (by assumption), held_step hbk (by assumption), held_step hbk (by assumption), held_step hbk (by assumption), below_step (by assumption) hbk⟩)))
            ((go_at_call 37; refine (T.out _).mono ?_; rintro e w' ⟨rfl, hbk⟩))
          clear hB x0 x1 x2 c0 c1 c2
          go_split_ands
          have hbw : Below wr.heap.size wr w' := by assumption
          have hP2 := hP.keep hbw
          clear hP
          cases r
          · go_wp2
            go_roundw
            case rel =>
              refine ⟨k + 1, ls, by omega, by go_num, ?_, by omega, hP2⟩
              show _ = _
              rw [filt_next _ hlt, EY.out, HR.out, HK.out]
              simp
            case measure => simp [intOf]; omega
          · have hlw := blk_lt hP2.box
            go_wp2_with (first
              | (at_builtin
                 refine wpList_append_any _ rfl (.tmp 44) (.tmp 49) 26 rfl (w.heap.size + 1) 64 i0 _ 3 24 Try.underlying26 hi hz0 hz1 hz2 rfl (by decide) _ ls.length (edCells ls) rfl (hP2.own.alloc _) (some ⟨w'.heap.size, 0, none⟩) 1 1 [.int .i64 yf, .int .u8 yl, .int .i64 yt] rfl (Rd.new3 w' _ _ _ _) (by intro u hu; simp at hu; rcases hu with rfl | rfl | rfl <;> rfl) (by unfold maxLen; omega) (by omega) (by simp; omega) ?_
                 intro v1 w3 hown3 hg3 _
                 have hP3 := Lib.hid (hP2.app (y := ⟨yf, yl, yt⟩) hown3 hg3)))
            go_roundw
            case rel =>
              refine ⟨k + 1, ls ++ [⟨yf, yl, yt⟩], by omega, by go_num, ?_, by simp; omega, by simpa using hP3.out⟩
              show _ = _
              rw [filt_next _ hlt, EY.out, HR.out, HK.out]
              simp
            case measure => simp [intOf]; omega
        · obtain rfl : k = es.length := by omega
          have hls : ls = L := by
            have h1 := HK.out
            rw [List.take_of_length_le (Nat.le_refl _)] at h1
            rw [h1, HK2.out, ← HL.out]
            rfl
          subst hls
          obtain ⟨A1, c1, rfl, _, _⟩ := own_slice hP.own
          have HP := Lib.hid hP
          clear hP
          go_wp2
          go_ret
          exact ⟨A1, c1, rfl, own_mono HP.out.own (by omega), HP.out.bel⟩
end Go.Proofs.Ytjlekcoikceidaa
